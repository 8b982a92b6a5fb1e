/- Contracts and plain laws, several texts in one: MixT; MixP; MixB; RowS; RowB; APlain; Sl; Trk; Pgs; Cln; JnC; JnD; Shelf; Shl; JnE; JnF -/
import Derived.StillTail
import Derived.Deep.AppendLies
import Derived.Test.YtcbicpbbjbkiaaaGreatDoorProg
import Derived.WalkKit
import Derived.WalkSpells
import Derived.WalkLawsBesides
import Derived.Lib.Hide
import Derived.BigQuiet
import Derived.Deep.Slices
import Derived.Laws.OwnMore
import Derived.WideShapes
import Derived.Lib.SmallJoins
import Derived.Deep.Fields
import Derived.ChangeSame
import Derived.ChangeShapes
import Derived.Lib.AppendZeros
import Derived.Shelf.Strings.Builder1
import Derived.Shelf.Strings.Builder2
import Derived.Shelf.Small.Bits
import Derived.Shelf.Small.Wraps
import Derived.Shelf.Strings.BuilderF
import Derived.Shelf.Strings.BuilderK
import Derived.Shelf.Strings.Builder2Cap
import Derived.Shelf.Strconv.Itoa0
import Derived.Shelf.Strconv.Itoa1
import Derived.Shelf.LaysM
import Derived.Shelf.Strconv.Itoa2
import Derived.Shelf.Strconv.Itoa3
import Derived.Shelf.Strings.Search1
import Derived.Shelf.Strings.Search2
import Derived.Shelf.Strings.Cut
import Derived.Shelf.Strings.Shaped
import Derived.Shelf.Sort.Plain
import Derived.Shelf.Strings.Prefix
import Derived.Shelf.Bits.Mul64
import Derived.Shelf.Strings.Repeat
import Derived.Shelf.Strings.BuilderCap
import Derived.Shelf.Slices.Turned
import Derived.Shelf.Slices.Equal
import Derived.Ground.Names2Prog
import Derived.Shelf.Slices.Clone
import Derived.Shelf.Slices.CompactS
import Derived.Shelf.Slices.SearchI
import Derived.Shelf.Slices.Cells
import Derived.Shelf.Slices.In.SortNone
import Derived.Shelf.Slices.Empties
import Derived.Shelf.Slices.Empties2
import Derived.Shelf.Bytes.SlSearch0
import Derived.Shelf.Bytes.SlEqualAll
import Derived.Shelf.Bytes.Small
import Derived.Sort.OwnSortedInts
import Derived.Test.YtcbicpbbjbkiaaaGreatDoorZmAA
namespace Go.Proofs.YtcbicpbbjbkiaaaGreatDoor
open Go.RowKit

section
variable {P : Program} {ops : Array Oper} {md : Region.Mode} {κ : Type} {Cl : κ → World}

def mixT (P : Program) (md : Region.Mode) (ops : Array Oper) (Cl : κ → World) (n : Nat) (L : Array Bool → Act → World → Prop) : Nat → Array Bool → Act → World → Prop
 | 0, listed, a, w => ∀ d, L listed a (bw w d)
 | f + 1, listed, a, w => Region.ready md ops listed ≠ [] ∧ ∀ i ∈ Region.ready md ops listed, i < n ∧ ∀ d, oneOp P ops i (fun a' w' => (∃ k, w' = Cl k) ∧ mixT P md ops Cl n L f (listed.setIfInBounds i true) a' w') a (bw w d)
theorem mixT_ext {n : Nat} {L : Array Bool → Act → World → Prop} : ∀ {f : Nat} {listed : Array Bool} {a : Act} {w : World} (d : Ext), mixT P md ops Cl n L f listed a w → mixT P md ops Cl n L f listed a (bw w d)
 | 0, _, _, w, d, h => fun e => by rw [bw_bw]; exact h _
 | _ + 1, _, _, w, d, h => ⟨h.1, fun i hi => ⟨(h.2 i hi).1, fun e => by rw [bw_bw]; exact (h.2 i hi).2 _⟩⟩
theorem mixT_sound {n g : Nat} {L : Array Bool → Act → World → Prop} {Q' : Exit → Act → World → Prop} (hL : ∀ listed a w, L listed a w → wpAny P md ops Q' g listed a w) :
  ∀ (f : Nat) (listed : Array Bool) (a : Act) (w : World), mixT P md ops Cl n L f listed a w → wpAny P md ops Q' (f + g) listed a w
 | 0, listed, a, w, h => by rw [Nat.zero_add]; have := h (noExt w); rw [bw_noExt] at this; exact hL _ _ _ this
 | f + 1, listed, a, w, h => by
  rw [show f + 1 + g = (f + g) + 1 by omega]
  refine ⟨fun h0 => absurd h0 h.1, fun i hi => ?_⟩
  have h1 := (h.2 i hi).2 (noExt w)
  rw [bw_noExt] at h1
  unfold oneOp at h1
  unfold wpOp
  split
  ·rename_i ho; simp only [ho] at h1; exact mixT_sound hL f _ _ _ h1.2
  ·rename_i o ho
   simp only [ho] at h1
   split
   ·rename_i hw; rw [if_pos hw] at h1
    exact Or.inl (wp_of_sOp (sOp_mono (fun a w hk => mixT_sound hL f _ a w hk.2) h1))
   ·rename_i hw; rw [if_neg hw] at h1; exact mixT_sound hL f _ _ _ h1.2

theorem mixT_first {n i : Nat} {oi : Oper} {v : Value} {L : Array Bool → Act → World → Prop} (hCl : ∀ k d, ∃ k', bw (Cl k) d = Cl k') (hi : ops[i]? = some oi) (hsel : ∀ (j : Nat) (o : Oper) cs b, ops[j]? = some o → o.op ≠ .select cs b)
  (hs : Region.sinkB md ops n = true) (hc : Region.chainB md ops n = true) (hn : n < ops.size) (hin : i < n) (hdone : ∀ listed a w, L listed a w → ∀ j ∈ Region.ready md ops listed, n ≤ j) :
  ∀ (f : Nat) (listed : Array Bool) (a : Act) (w : World), (∃ k, w = Cl k) → HeadInv md ops n listed →
   (∀ j oj, ops[j]? = some oj → j ≠ i → listed.getD j true = false → (∀ e ∈ oj.after, Region.binds md e = true → e.on ≠ i) → oi.apart ops oj = true) →
   i ∈ Region.ready md ops listed → YieldsM P ops Cl oi v a →
   mixT P md ops Cl n L f (listed.setIfInBounds i true) (a.put oi.dst v) w → mixT P md ops Cl n L (f + 1) listed a w := by
 have cl : ∀ w d, (∃ k, w = Cl k) → ∃ k, bw w d = Cl k := fun w d ⟨k, hk⟩ => by rw [hk]; exact hCl k d
 intro f
 induction f with
 | zero =>
  intro listed a w hw inv _ hr hy H
  have hun := (mem_ready.1 hr).1
  have early : ∀ j ∈ Region.ready md ops listed, j < n := fun j hj =>
   Nat.lt_of_not_le fun hle => tail_waits hs hc hn inv _ i rfl hin hun j hle hj
  refine ⟨List.ne_nil_of_mem hr, fun j hj => ⟨early j hj, fun d => ?_⟩⟩
  by_cases hji : j = i
  ·subst hji
   exact hy.oneOp hi (cl w d hw) ⟨cl w d hw, mixT_ext d H⟩ (fun e => ⟨cl _ e (cl w d hw), mixT_ext e (mixT_ext d H)⟩)
  ·exact absurd (hdone _ _ _ (H (noExt w)) j (ready_mono hj hji)) (Nat.not_le_of_lt (early j hj))
 | succ f ih =>
  intro listed a w hw inv hfree hr hy H
  have hun := (mem_ready.1 hr).1
  have early : ∀ j ∈ Region.ready md ops listed, j < n := fun j hj =>
   Nat.lt_of_not_le fun hle => tail_waits hs hc hn inv _ i rfl hin hun j hle hj
  refine ⟨List.ne_nil_of_mem hr, fun j hj => ⟨early j hj, fun d => ?_⟩⟩
  by_cases hji : j = i
  ·subst hji
   exact hy.oneOp hi (cl w d hw) ⟨cl w d hw, mixT_ext d H⟩ (fun e => ⟨cl _ e (cl w d hw), mixT_ext e (mixT_ext d H)⟩)
  ·have h1 := (H.2 j (ready_mono hj hji)).2 d
   obtain ⟨hjun, oj, hoj, hall⟩ := mem_ready.1 hj
   have hnot : ∀ e ∈ oj.after, Region.binds md e = true → e.on ≠ i := fun e he hb heq => by
    have h2 := hall e he hb
    rw [heq, getD_both hun] at h2
    cases h2
   have h2 := oneOp_put hoj (hfree j oj hoj hji hjun hnot) (fun cs b => hsel i oi cs b hi) (fun cs b => hsel j oj cs b hoj) hy h1
   have hfree' : ∀ k ok, ops[k]? = some ok → k ≠ i → (listed.setIfInBounds j true).getD k true = false →
     (∀ e ∈ ok.after, Region.binds md e = true → e.on ≠ i) → oi.apart ops ok = true := fun k ok hk hki hu hno => by
    refine hfree k ok hk hki ?_ hno
    by_cases hjk : j = k
    ·subst hjk; exact hjun
    ·rw [getD_set_ne true hjk] at hu; exact hu
   refine oneOp_mono (fun a' w' h3 => ⟨h3.2.1, ih (listed.setIfInBounds j true) a' w' h3.2.1 (inv.set hj (early j hj)) hfree' (ready_mono hr (Ne.symm hji)) h3.1 ?_⟩) h2
   rw [Array.setIfInBounds_comm _ _ hji]
   exact h3.2.2

def lexMT (md : Region.Mode) (ops : Array Oper) (n g : Nat) : List Nat → Nat → Array Bool → Bool
 | [], k, listed => decide (k = n) && Region.seqB md ops g k listed
 | 0 :: s, k, listed => decide (k < n) && (Region.ready md ops listed).contains k && Region.free md ops listed k && lexMT md ops n g s (k + 1) (listed.setIfInBounds k true)
 | 1 :: s, k, listed => decide (k < n) && decide (Region.ready md ops listed = [k]) && lexMT md ops n g s (k + 1) (listed.setIfInBounds k true)
 | _, _, _ => false

theorem mixT_of_wpM {n g : Nat} {Lq : Act → World → Prop} (hCl : ∀ k d, ∃ k', bw (Cl k) d = Cl k') (hsel : Region.noSelect ops = true) (hs : Region.sinkB md ops n = true) (hc : Region.chainB md ops n = true) (hn : n < ops.size) :
  ∀ (s : List Nat) (l : List Oper) (k : Nat) (listed : Array Bool) (a : Act) (w : World), (∀ j, j < l.length → l[j]? = ops[k + j]?) → k + l.length = n → HeadInv md ops n listed → (∃ k, w = Cl k) → lexMT md ops n g s k listed = true →
  wpM P ops Cl Lq s l a w → mixT P md ops Cl n (fun listed' a' w' => Region.seqB md ops g n listed' = true ∧ Lq a' w') l.length listed a w
 | [], l, k, listed, a, w, hl, hk, inv, hw, hB, h => by
  simp only [lexMT, Bool.and_eq_true, decide_eq_true_eq] at hB
  obtain ⟨hkn, hB⟩ := hB
  have : l = [] := List.eq_nil_of_length_eq_zero (by omega)
  subst this
  subst hkn
  exact fun d => ⟨hB, h d⟩
 | 0 :: s, l, k, listed, a, w, hl, hk, inv, hw, hB, h => by
  simp only [lexMT, Bool.and_eq_true, decide_eq_true_eq] at hB
  obtain ⟨⟨⟨hkn, hr⟩, hf⟩, hB'⟩ := hB
  cases l with
  | nil => simp at hk; omega
  | cons o l =>
   have h0 : ops[k]? = some o := by simpa using (hl 0 (by simp)).symm
   have hr' : k ∈ Region.ready md ops listed := by simpa using hr
   have hy : ∃ v, YieldsM P ops Cl o v a ∧ wpM P ops Cl Lq s l (a.put o.dst v) w := by
    simp only [wpM] at h
    by_cases hw1 : Region.wanted o (yielded ops a.tmps) = true
    ·rw [if_pos hw1] at h
     obtain ⟨v, h1, h2⟩ := h
     exact ⟨v, .inl ⟨hw1, h1⟩, h2⟩
    ·rw [if_neg hw1] at h
     exact ⟨undef, .inr ⟨by simpa using hw1, rfl⟩, h⟩
   obtain ⟨v, hy, hK⟩ := hy
   simp only [List.length_cons] at hk
   exact mixT_first hCl h0 (Region.noSelect_spec hsel) hs hc hn hkn (fun _ _ _ hL => seqB_ready hL.1) l.length listed a w hw inv (Region.free_spec h0 hf) hr' hy
    (mixT_of_wpM hCl hsel hs hc hn s l (k + 1) _ _ w (fun j hj => by have := hl (j + 1) (by simp; omega); simpa [Nat.add_assoc, Nat.add_comm 1 j] using this) (by omega) (inv.set hr' hkn) hw hB' hK)
 | 1 :: s, l, k, listed, a, w, hl, hk, inv, hw, hB, h => by
  simp only [lexMT, Bool.and_eq_true, decide_eq_true_eq] at hB
  obtain ⟨⟨hkn, hr⟩, hB'⟩ := hB
  cases l with
  | nil => simp at hk; omega
  | cons o l =>
   have h0 : ops[k]? = some o := by simpa using (hl 0 (by simp)).symm
   simp only [List.length_cons] at hk
   have hl' : ∀ j, j < l.length → l[j]? = ops[k + 1 + j]? := fun j hj => by have := hl (j + 1) (by simp; omega); simpa [Nat.add_assoc, Nat.add_comm 1 j] using this
   have inv' := inv.set (i := k) (by rw [hr]; simp) hkn
   refine ⟨by rw [hr]; simp, fun i hi => ?_⟩
   rw [hr] at hi
   obtain rfl : i = k := by simpa using hi
   refine ⟨hkn, fun d => ?_⟩
   simp only [wpM] at h
   have hd := h d
   rw [oneOp_some h0]
   split
   ·rename_i hw1; rw [if_pos hw1] at hd
    exact sOp_mono (fun a' w' hk' => ⟨hk'.1, mixT_of_wpM hCl hsel hs hc hn s l (i + 1) _ _ w' hl' (by omega) inv' hk'.1 hB' hk'.2⟩) hd
   ·rename_i hw1; rw [if_neg hw1] at hd
    exact ⟨hd.1, mixT_of_wpM hCl hsel hs hc hn s l (i + 1) _ _ _ hl' (by omega) inv' hd.1 hB' hd.2⟩
 | (_ + 2) :: _, _, _, _, _, _, _, _, _, _, hB, _ => by simp [lexMT] at hB

theorem region_mixT {id : Nat} {Q : Exit → Act → World → Prop} {a : Act} {w : World} {l : List Oper} (n : Nat) (s : List Nat) (hm : P.follows .mixedOrders = true) (hsel : Region.noSelect l.toArray = true)
  (hs : Region.sinkB .any l.toArray n = true) (hc : Region.chainB .any l.toArray n = true) (hn : n < l.toArray.size)
  (hB : lexMT .any l.toArray n (l.toArray.size - n) s 0 (Array.replicate l.toArray.size false) = true)
  (h : wpM P l.toArray (fun d => bw w d) (fun a w => wpList P l.toArray Q (l.drop n) a w) s (l.take n) a w) : (Code.region id l.toArray true).wp P Q a w := by
 have hn' : n < l.length := by simpa using hn
 have htl : (l.take n).length = n := by simp; omega
 have hdl : (l.drop n).length = l.toArray.size - n := by simp
 have inv0 : HeadInv .any l.toArray n (Array.replicate l.toArray.size false) :=
  ⟨by simp, fun j oj _ hl => (by rw [getD_replicate_false] at hl; cases hl), fun t _ ht => getD_in (by simpa using ht) (getD_replicate_false _ _)⟩
 have H := mixT_of_wpM (md := .any) (g := l.toArray.size - n) (fun k d => ⟨_, bw_bw w k d⟩) hsel hs hc hn s (l.take n) 0 _ a w (fun j hj => by
  have hj' : j < n := by rw [htl] at hj; exact hj
  simp [hj']) (by simpa using htl) inv0 ⟨noExt w, (bw_noExt w).symm⟩ hB h
 refine wp_region_any hm ?_
 have := mixT_ext (⟨#[], w.drawn + 1⟩ : Ext) H
 rw [← bw_drewExt] at this
 have := mixT_sound (Q' := Q) (g := l.toArray.size - n) (fun listed a' w' hL => by
  have := wpAny_of_seq (md := .any) (Q' := Q) (l.drop n) n listed a' w' (fun j => by simp [List.getElem?_drop]) (by rw [hdl]; exact hL.1) hL.2
  rwa [hdl] at this) _ _ _ _ this
 rw [htl, show n + (l.toArray.size - n) = l.toArray.size by omega] at this
 exact this
end
end Go.Proofs.YtcbicpbbjbkiaaaGreatDoor
namespace Go.Proofs.YtcbicpbbjbkiaaaGreatDoor
open Go.RowKit

section
variable {P : Program} {md : Region.Mode} {κ : Type} {Cl : κ → World} {l : List Oper} {ops : Array Oper}

def wpMP (P : Program) (l : List Oper) (ops : Array Oper) (Cl : κ → World) (Q : Act → World → Prop) : List (Nat × Nat) → Act → World → Prop
 | [], a, w => ∀ d, Q a (bw w d)
 | (i, 0) :: s, a, w => ∃ o, l[i]? = some o ∧ (if Region.wanted o (yielded ops a.tmps) then mOp P Cl o a (fun a' => wpMP P l ops Cl Q s a' w) else wpMP P l ops Cl Q s (a.put o.dst undef) w)
 | (i, 1) :: s, a, w => ∃ o, l[i]? = some o ∧ ∀ d, (if Region.wanted o (yielded ops a.tmps) then sOp P o a (fun a' w' => (∃ k, w' = Cl k) ∧ wpMP P l ops Cl Q s a' w') (bw w d) else (∃ k, bw w d = Cl k) ∧ wpMP P l ops Cl Q s (a.put o.dst undef) (bw w d))
 | (_, _ + 2) :: _, _, _ => False
def lexMP (md : Region.Mode) (ops : Array Oper) (n g : Nat) : List (Nat × Nat) → Array Bool → Bool
 | [], listed => Region.seqB md ops g n listed
 | (i, 0) :: s, listed => decide (i < n) && (Region.ready md ops listed).contains i && Region.free md ops listed i && lexMP md ops n g s (listed.setIfInBounds i true)
 | (i, 1) :: s, listed => decide (i < n) && decide (Region.ready md ops listed = [i]) && lexMP md ops n g s (listed.setIfInBounds i true)
 | (_, _ + 2) :: _, _ => false

theorem mixT_of_wpMP {n g : Nat} {Lq : Act → World → Prop} (hCl : ∀ k d, ∃ k', bw (Cl k) d = Cl k') (hl : ∀ j : Nat, l[j]? = ops[j]?) (hsel : Region.noSelect ops = true) (hs : Region.sinkB md ops n = true) (hc : Region.chainB md ops n = true) (hn : n < ops.size) :
  ∀ (s : List (Nat × Nat)) (listed : Array Bool) (a : Act) (w : World), HeadInv md ops n listed → (∃ k, w = Cl k) → lexMP md ops n g s listed = true →
  wpMP P l ops Cl Lq s a w → mixT P md ops Cl n (fun listed' a' w' => Region.seqB md ops g n listed' = true ∧ Lq a' w') s.length listed a w
 | [], listed, a, w, inv, hw, hB, h => fun d => ⟨hB, h d⟩
 | (k, 0) :: s, listed, a, w, inv, hw, hB, h => by
  simp only [lexMP, Bool.and_eq_true, decide_eq_true_eq] at hB
  obtain ⟨⟨⟨hkn, hr⟩, hf⟩, hB'⟩ := hB
  obtain ⟨o, ho, h⟩ := h
  have h0 : ops[k]? = some o := (hl k).symm.trans ho
  have hr' : k ∈ Region.ready md ops listed := by simpa using hr
  have hy : ∃ v, YieldsM P ops Cl o v a ∧ wpMP P l ops Cl Lq s (a.put o.dst v) w := by
   by_cases hw1 : Region.wanted o (yielded ops a.tmps) = true
   ·rw [if_pos hw1] at h
    obtain ⟨v, h1, h2⟩ := h
    exact ⟨v, .inl ⟨hw1, h1⟩, h2⟩
   ·rw [if_neg hw1] at h
    exact ⟨undef, .inr ⟨by simpa using hw1, rfl⟩, h⟩
  obtain ⟨v, hy, hK⟩ := hy
  exact mixT_first hCl h0 (Region.noSelect_spec hsel) hs hc hn hkn (fun _ _ _ hL => seqB_ready hL.1) s.length listed a w hw inv (Region.free_spec h0 hf) hr' hy
   (mixT_of_wpMP hCl hl hsel hs hc hn s _ _ w (inv.set hr' hkn) hw hB' hK)
 | (k, 1) :: s, listed, a, w, inv, hw, hB, h => by
  simp only [lexMP, Bool.and_eq_true, decide_eq_true_eq] at hB
  obtain ⟨⟨hkn, hr⟩, hB'⟩ := hB
  obtain ⟨o, ho, h⟩ := h
  have h0 : ops[k]? = some o := (hl k).symm.trans ho
  have inv' := inv.set (i := k) (by rw [hr]; simp) hkn
  refine ⟨by rw [hr]; simp, fun i hi => ?_⟩
  rw [hr] at hi
  obtain rfl : i = k := by simpa using hi
  refine ⟨hkn, fun d => ?_⟩
  have hd := h d
  rw [oneOp_some h0]
  split
  ·rename_i hw1; rw [if_pos hw1] at hd
   exact sOp_mono (fun a' w' hk' => ⟨hk'.1, mixT_of_wpMP hCl hl hsel hs hc hn s _ _ w' inv' hk'.1 hB' hk'.2⟩) hd
  ·rename_i hw1; rw [if_neg hw1] at hd
   exact ⟨hd.1, mixT_of_wpMP hCl hl hsel hs hc hn s _ _ _ inv' hd.1 hB' hd.2⟩
 | (_, _ + 2) :: _, _, _, _, _, _, hB, _ => by simp [lexMP] at hB

theorem region_mixP {id : Nat} {Q : Exit → Act → World → Prop} {a : Act} {w : World} {l : List Oper} (s : List (Nat × Nat)) (hm : P.follows .mixedOrders = true) (hsel : Region.noSelect l.toArray = true)
  (hs : Region.sinkB .any l.toArray s.length = true) (hc : Region.chainB .any l.toArray s.length = true) (hn : s.length < l.toArray.size)
  (hB : lexMP .any l.toArray s.length (l.toArray.size - s.length) s (Array.replicate l.toArray.size false) = true)
  (h : wpMP P l l.toArray (fun d => bw w d) (fun a w => wpList P l.toArray Q (l.drop s.length) a w) s a w) : (Code.region id l.toArray true).wp P Q a w := by
 have hn' : s.length < l.length := by simpa using hn
 have hdl : (l.drop s.length).length = l.toArray.size - s.length := by simp
 have inv0 : HeadInv .any l.toArray s.length (Array.replicate l.toArray.size false) :=
  ⟨by simp, fun j oj _ hl => (by rw [getD_replicate_false] at hl; cases hl), fun t _ ht => getD_in (by simpa using ht) (getD_replicate_false _ _)⟩
 have H := mixT_of_wpMP (md := .any) (g := l.toArray.size - s.length) (fun k d => ⟨_, bw_bw w k d⟩) (fun j => by simp) hsel hs hc hn s _ a w inv0 ⟨noExt w, (bw_noExt w).symm⟩ hB h
 refine wp_region_any hm ?_
 have := mixT_ext (⟨#[], w.drawn + 1⟩ : Ext) H
 rw [← bw_drewExt] at this
 have := mixT_sound (Q' := Q) (g := l.toArray.size - s.length) (fun listed a' w' hL => by
  have := wpAny_of_seq (md := .any) (Q' := Q) (l.drop s.length) s.length listed a' w' (fun j => by simp [List.getElem?_drop]) (by rw [hdl]; exact hL.1) hL.2
  rwa [hdl] at this) _ _ _ _ this
 rw [show s.length + (l.toArray.size - s.length) = l.toArray.size by omega] at this
 exact this
theorem wpMP_quiet {Q : Act → World → Prop} {a : Act} {w : World} {i : Nat} {o : Oper} {s : List (Nat × Nat)} (ho : l[i]? = some o)
  (h : ∀ K : Act → Prop, (∀ a, wpMP P l ops Cl Q s a w → K a) → if Region.wanted o (yielded ops a.tmps) then mOp P Cl o a K else K (a.put o.dst undef)) : wpMP P l ops Cl Q ((i, 0) :: s) a w :=
 ⟨o, ho, h _ (fun _ h => h)⟩
theorem wpMP_special {Q : Act → World → Prop} {a : Act} {w : World} {i : Nat} {o : Oper} {s : List (Nat × Nat)} (ho : l[i]? = some o)
  (h : ∀ (K : Act → World → Prop), (∀ a' w', (∃ k, w' = Cl k) → wpMP P l ops Cl Q s a' w' → K a' w') → ∀ d, if Region.wanted o (yielded ops a.tmps) then sOp P o a K (bw w d) else K (a.put o.dst undef) (bw w d)) : wpMP P l ops Cl Q ((i, 1) :: s) a w :=
 ⟨o, ho, fun d => by
  have := h (fun a' w' => (∃ k, w' = Cl k) ∧ wpMP P l ops Cl Q s a' w') (fun _ _ h1 h2 => ⟨h1, h2⟩) d
  split
  ·rename_i hw; rw [if_pos hw] at this; exact this
  ·rename_i hw; rw [if_neg hw] at this; exact this⟩
theorem wpMP_nil {Q : Act → World → Prop} {a : Act} {w : World} (h : ∀ d, Q a (bw w d)) : wpMP P l ops Cl Q [] a w := h
end
end Go.Proofs.YtcbicpbbjbkiaaaGreatDoor
namespace Go.Proofs.YtcbicpbbjbkiaaaGreatDoor
open Go.RowKit

inductive Sch where
 | done : Sch
 | q : Nat → Sch → Sch
 | one : Nat → Sch → Sch
 | two : Nat → Sch → Nat → Sch → Sch
section
variable {P : Program} {md : Region.Mode} {κ : Type} {Cl : κ → World} {l : List Oper} {ops : Array Oper}

def spB (P : Program) (l : List Oper) (ops : Array Oper) (Cl : κ → World) (i : Nat) (X : Act → World → Prop) (a : Act) (w : World) : Prop :=
 ∃ o, l[i]? = some o ∧ ∀ d, (if Region.wanted o (yielded ops a.tmps) then sOp P o a (fun a' w' => (∃ k, w' = Cl k) ∧ X a' w') (bw w d) else (∃ k, bw w d = Cl k) ∧ X (a.put o.dst undef) (bw w d))
def wpMB (P : Program) (l : List Oper) (ops : Array Oper) (Cl : κ → World) (Q : Act → World → Prop) : Sch → Act → World → Prop
 | .done, a, w => ∀ d, Q a (bw w d)
 | .q i s, a, w => ∃ o, l[i]? = some o ∧ (if Region.wanted o (yielded ops a.tmps) then mOp P Cl o a (fun a' => wpMB P l ops Cl Q s a' w) else wpMB P l ops Cl Q s (a.put o.dst undef) w)
 | .one i s, a, w => spB P l ops Cl i (wpMB P l ops Cl Q s) a w
 | .two i s j t, a, w => spB P l ops Cl i (wpMB P l ops Cl Q s) a w ∧ spB P l ops Cl j (wpMB P l ops Cl Q t) a w
def lexMB (md : Region.Mode) (ops : Array Oper) (n g : Nat) : Nat → Sch → Array Bool → Bool
 | 0, .done, listed => Region.seqB md ops g n listed
 | f + 1, .q i s, listed => decide (i < n) && (Region.ready md ops listed).contains i && Region.free md ops listed i && lexMB md ops n g f s (listed.setIfInBounds i true)
 | f + 1, .one i s, listed => decide (i < n) && decide (Region.ready md ops listed = [i]) && lexMB md ops n g f s (listed.setIfInBounds i true)
 | f + 1, .two i s j t, listed => decide (i < n) && decide (j < n) && decide (Region.ready md ops listed = [i, j]) && lexMB md ops n g f s (listed.setIfInBounds i true) && lexMB md ops n g f t (listed.setIfInBounds j true)
 | _, _, _ => false

theorem mixT_of_wpMB {n g : Nat} {Lq : Act → World → Prop} (hCl : ∀ k d, ∃ k', bw (Cl k) d = Cl k') (hl : ∀ j : Nat, l[j]? = ops[j]?) (hsel : Region.noSelect ops = true) (hs : Region.sinkB md ops n = true) (hc : Region.chainB md ops n = true) (hn : n < ops.size) :
  ∀ (f : Nat) (s : Sch) (listed : Array Bool) (a : Act) (w : World), HeadInv md ops n listed → (∃ k, w = Cl k) → lexMB md ops n g f s listed = true →
  wpMB P l ops Cl Lq s a w → mixT P md ops Cl n (fun listed' a' w' => Region.seqB md ops g n listed' = true ∧ Lq a' w') f listed a w
 | 0, .done, listed, a, w, inv, hw, hB, h => fun d => ⟨hB, h d⟩
 | f + 1, .q k s, listed, a, w, inv, hw, hB, h => by
  simp only [lexMB, Bool.and_eq_true, decide_eq_true_eq] at hB
  obtain ⟨⟨⟨hkn, hr⟩, hf⟩, hB'⟩ := hB
  obtain ⟨o, ho, h⟩ := h
  have h0 : ops[k]? = some o := (hl k).symm.trans ho
  have hr' : k ∈ Region.ready md ops listed := by simpa using hr
  have hy : ∃ v, YieldsM P ops Cl o v a ∧ wpMB P l ops Cl Lq s (a.put o.dst v) w := by
   by_cases hw1 : Region.wanted o (yielded ops a.tmps) = true
   ·rw [if_pos hw1] at h
    obtain ⟨v, h1, h2⟩ := h
    exact ⟨v, .inl ⟨hw1, h1⟩, h2⟩
   ·rw [if_neg hw1] at h
    exact ⟨undef, .inr ⟨by simpa using hw1, rfl⟩, h⟩
  obtain ⟨v, hy, hK⟩ := hy
  exact mixT_first hCl h0 (Region.noSelect_spec hsel) hs hc hn hkn (fun _ _ _ hL => seqB_ready hL.1) f listed a w hw inv (Region.free_spec h0 hf) hr' hy
   (mixT_of_wpMB hCl hl hsel hs hc hn f s _ _ w (inv.set hr' hkn) hw hB' hK)
 | f + 1, .one k s, listed, a, w, inv, hw, hB, h => by
  simp only [lexMB, Bool.and_eq_true, decide_eq_true_eq] at hB
  obtain ⟨⟨hkn, hr⟩, hB'⟩ := hB
  obtain ⟨o, ho, h⟩ := h
  have h0 : ops[k]? = some o := (hl k).symm.trans ho
  have inv' := inv.set (i := k) (by rw [hr]; simp) hkn
  refine ⟨by rw [hr]; simp, fun i hi => ?_⟩
  rw [hr] at hi
  obtain rfl : i = k := by simpa using hi
  refine ⟨hkn, fun d => ?_⟩
  have hd := h d
  rw [oneOp_some h0]
  split
  ·rename_i hw1; rw [if_pos hw1] at hd
   exact sOp_mono (fun a' w' hk' => ⟨hk'.1, mixT_of_wpMB hCl hl hsel hs hc hn f s _ _ w' inv' hk'.1 hB' hk'.2⟩) hd
  ·rename_i hw1; rw [if_neg hw1] at hd
   exact ⟨hd.1, mixT_of_wpMB hCl hl hsel hs hc hn f s _ _ _ inv' hd.1 hB' hd.2⟩
 | f + 1, .two k s j t, listed, a, w, inv, hw, hB, h => by
  simp only [lexMB, Bool.and_eq_true, decide_eq_true_eq] at hB
  obtain ⟨⟨⟨⟨hkn, hjn⟩, hr⟩, hB1⟩, hB2⟩ := hB
  obtain ⟨⟨o1, ho1, h1⟩, o2, ho2, h2⟩ := h
  have e1 : ops[k]? = some o1 := (hl k).symm.trans ho1
  have e2 : ops[j]? = some o2 := (hl j).symm.trans ho2
  have inv1 := inv.set (i := k) (by rw [hr]; simp) hkn
  have inv2 := inv.set (i := j) (by rw [hr]; simp) hjn
  refine ⟨by rw [hr]; simp, fun i hi => ?_⟩
  rw [hr] at hi
  have hi' : i = k ∨ i = j := by simpa using hi
  rcases hi' with rfl | rfl
  ·refine ⟨hkn, fun d => ?_⟩
   have hd := h1 d
   rw [oneOp_some e1]
   split
   ·rename_i hw1; rw [if_pos hw1] at hd
    exact sOp_mono (fun a' w' hk' => ⟨hk'.1, mixT_of_wpMB hCl hl hsel hs hc hn f s _ _ w' inv1 hk'.1 hB1 hk'.2⟩) hd
   ·rename_i hw1; rw [if_neg hw1] at hd
    exact ⟨hd.1, mixT_of_wpMB hCl hl hsel hs hc hn f s _ _ _ inv1 hd.1 hB1 hd.2⟩
  ·refine ⟨hjn, fun d => ?_⟩
   have hd := h2 d
   rw [oneOp_some e2]
   split
   ·rename_i hw1; rw [if_pos hw1] at hd
    exact sOp_mono (fun a' w' hk' => ⟨hk'.1, mixT_of_wpMB hCl hl hsel hs hc hn f t _ _ w' inv2 hk'.1 hB2 hk'.2⟩) hd
   ·rename_i hw1; rw [if_neg hw1] at hd
    exact ⟨hd.1, mixT_of_wpMB hCl hl hsel hs hc hn f t _ _ _ inv2 hd.1 hB2 hd.2⟩
 | 0, .q _ _, _, _, _, _, _, hB, _ => by simp [lexMB] at hB
 | 0, .one _ _, _, _, _, _, _, hB, _ => by simp [lexMB] at hB
 | 0, .two _ _ _ _, _, _, _, _, _, hB, _ => by simp [lexMB] at hB
 | _ + 1, .done, _, _, _, _, _, hB, _ => by simp [lexMB] at hB

theorem region_mixB {id : Nat} {Q : Exit → Act → World → Prop} {a : Act} {w : World} {l : List Oper} (n : Nat) (s : Sch) (hm : P.follows .mixedOrders = true) (hsel : Region.noSelect l.toArray = true)
  (hs : Region.sinkB .any l.toArray n = true) (hc : Region.chainB .any l.toArray n = true) (hn : n < l.toArray.size)
  (hB : lexMB .any l.toArray n (l.toArray.size - n) n s (Array.replicate l.toArray.size false) = true)
  (h : wpMB P l l.toArray (fun d => bw w d) (fun a w => wpList P l.toArray Q (l.drop n) a w) s a w) : (Code.region id l.toArray true).wp P Q a w := by
 have hdl : (l.drop n).length = l.toArray.size - n := by simp
 have inv0 : HeadInv .any l.toArray n (Array.replicate l.toArray.size false) :=
  ⟨by simp, fun j oj _ hl => (by rw [getD_replicate_false] at hl; cases hl), fun t _ ht => getD_in (by simpa using ht) (getD_replicate_false _ _)⟩
 have H := mixT_of_wpMB (md := .any) (g := l.toArray.size - n) (fun k d => ⟨_, bw_bw w k d⟩) (fun j => by simp) hsel hs hc hn n s _ a w inv0 ⟨noExt w, (bw_noExt w).symm⟩ hB h
 refine wp_region_any hm ?_
 have := mixT_ext (⟨#[], w.drawn + 1⟩ : Ext) H
 rw [← bw_drewExt] at this
 have := mixT_sound (Q' := Q) (g := l.toArray.size - n) (fun listed a' w' hL => by
  have := wpAny_of_seq (md := .any) (Q' := Q) (l.drop n) n listed a' w' (fun j => by simp [List.getElem?_drop]) (by rw [hdl]; exact hL.1) hL.2
  rwa [hdl] at this) _ _ _ _ this
 rw [show n + (l.toArray.size - n) = l.toArray.size by omega] at this
 exact this
theorem wpMB_quiet {Q : Act → World → Prop} {a : Act} {w : World} {i : Nat} {o : Oper} {s : Sch} (ho : l[i]? = some o)
  (h : ∀ K : Act → Prop, (∀ a, wpMB P l ops Cl Q s a w → K a) → if Region.wanted o (yielded ops a.tmps) then mOp P Cl o a K else K (a.put o.dst undef)) : wpMB P l ops Cl Q (.q i s) a w :=
 ⟨o, ho, h _ (fun _ h => h)⟩
theorem spB_of {X : Act → World → Prop} {a : Act} {w : World} {i : Nat} {o : Oper} (ho : l[i]? = some o)
  (h : ∀ (K : Act → World → Prop), (∀ a' w', (∃ k, w' = Cl k) → X a' w' → K a' w') → ∀ d, if Region.wanted o (yielded ops a.tmps) then sOp P o a K (bw w d) else K (a.put o.dst undef) (bw w d)) : spB P l ops Cl i X a w :=
 ⟨o, ho, fun d => by
  have := h (fun a' w' => (∃ k, w' = Cl k) ∧ X a' w') (fun _ _ h1 h2 => ⟨h1, h2⟩) d
  split
  ·rename_i hw; rw [if_pos hw] at this; exact this
  ·rename_i hw; rw [if_neg hw] at this; exact this⟩
theorem wpMB_one {Q : Act → World → Prop} {a : Act} {w : World} {i : Nat} {s : Sch} (h : spB P l ops Cl i (wpMB P l ops Cl Q s) a w) : wpMB P l ops Cl Q (.one i s) a w := h
theorem wpMB_two {Q : Act → World → Prop} {a : Act} {w : World} {i j : Nat} {s t : Sch} (h1 : spB P l ops Cl i (wpMB P l ops Cl Q s) a w) (h2 : spB P l ops Cl j (wpMB P l ops Cl Q t) a w) : wpMB P l ops Cl Q (.two i s j t) a w := ⟨h1, h2⟩
theorem wpMB_done {Q : Act → World → Prop} {a : Act} {w : World} (h : ∀ d, Q a (bw w d)) : wpMB P l ops Cl Q .done a w := h
end
end Go.Proofs.YtcbicpbbjbkiaaaGreatDoor
namespace Go.Proofs.YtcbicpbbjbkiaaaGreatDoor
open Go.RowKit
variable {α : Type} {R : RecT α}

theorem sop_append (hR : RecOk R) {ops : Array Oper} {o : Oper} {a : Act} {K : Act → World → Prop} {E : Prop} (hgd : o.guard = none) (s x : Operand)
  (ho : o.op = .call { callee := .builtin .append, args := #[s, x], argTypes := #[R.S, R.S] })
  (W0 wb : World) (v1 : Value) (l1 : List α) (ad : Addr) (n c : Nat) (l2 : List α) (hw : Below W0.heap.size W0 wb) (hown : OwG R wb W0.heap.size v1 l1)
  (hl : n = l2.length) (hwf : ∀ y ∈ l2, R.wf y) (hnews : ∀ (j : Nat) u, (l2.flatMap R.enc)[j]? = some u → wb.cell? (ad.add j) = some u) (hs : a.eval s = v1) (hx : a.eval x = .slice (some ad) n c) (hn : l1.length + l2.length ≤ 1000000000)
  (h : ∀ v' d, OwG R (bw W0 d) W0.heap.size v' (l1 ++ l2) → (∀ k, k < wb.heap.size → v1.ownBlock ≠ some k → (bw W0 d).heap[k]? = wb.heap[k]?) → K (a.put o.dst v') (bw W0 d)) :
  if Region.wanted o (yielded ops a.tmps) = true then sOp Tryz.prog o a K wb else E := by
 have hwn : Region.wanted o (yielded ops a.tmps) = true := by simp [Region.wanted, hgd]
 rw [if_pos hwn]
 obtain ⟨i, z, hi, hz0, hz1, hz2, hz3⟩ := hR.info
 have hM : maxLen = 9223372036854775807 := by decide
 have hb2 : (l1.length + l2.length) * R.bytes ≤ 1000000000 * 1000 := Nat.mul_le_mul hn hR.small
 subst hl
 obtain ⟨v', w', hr, hown', hg, _⟩ := run_append_own (P := Tryz.prog) wb W0.heap.size R.S o.type R.E i z R.k R.bytes hR.und hi hz0 hz1 hz2 hz3 hR.pos v1 l1.length (l1.flatMap R.enc) hown.1 ad l2.length c (l2.flatMap R.enc) (flat_len hR l2) hnews (fun u hu => by
  obtain ⟨y, _, hy⟩ := List.mem_flatMap.1 hu
  exact hR.one y u hy) (by omega) (by omega) hw.size
 obtain ⟨d, hd⟩ := bw_of (w := W0) (w' := w') (hw.grown hg hw.size (fun k hk => (hown.1.lt k hk).1))
 subst hd
 unfold sOp execOp
 simp only [ho, resolve, invoke, builtin, Sem.run_bind, Sem.run_pure, Result.andThen_ok, List.map_toArray, List.map_cons, List.map_nil, hs, hx, hr]
 refine h v' d ⟨by rw [List.length_append, List.flatMap_append]; exact hown', fun y hy => ?_⟩ (fun k hk hne => hg.block k hk (fun e => hne e.symm))
 rcases List.mem_append.1 hy with hy | hy
 ·exact hown.2 y hy
 ·exact hwf y hy
theorem sop_rec (hR : RecOk R) {ops : Array Oper} {o : Oper} {a : Act} {K : Act → World → Prop} {E : Prop} (hgd : o.guard = none) (s x : Operand)
  (ho : o.op = .call { callee := .builtin .append, args := #[s, x], argTypes := #[R.S, R.S] })
  (W0 wb : World) (v1 : Value) (l1 : List α) (c : α) (cs : Array Value) (te : TypeId) (xb : Nat) (hw : Below W0.heap.size W0 wb) (hown : OwG R wb W0.heap.size v1 l1)
  (hcell : wb.heap[xb]? = some (.cells cs te (0, 0))) (hcs : cs.toList = R.enc c) (hs : a.eval s = v1) (hx : a.eval x = .slice (some ⟨xb, 0, none⟩) 1 1) (hn : l1.length ≤ 100000000) (hc : R.wf c)
  (h : ∀ v' d, OwG R (bw W0 d) W0.heap.size v' (l1 ++ [c]) → (∀ k, k < wb.heap.size → v1.ownBlock ≠ some k → (bw W0 d).heap[k]? = wb.heap[k]?) → K (a.put o.dst v') (bw W0 d)) :
  if Region.wanted o (yielded ops a.tmps) = true then sOp Tryz.prog o a K wb else E :=
 sop_append hR hgd s x ho W0 wb v1 l1 ⟨xb, 0, none⟩ 1 1 [c] hw hown rfl (fun y hy => by rw [List.mem_singleton.1 hy]; exact hc) (by
  intro j u hu
  have : ([c] : List α).flatMap R.enc = cs.toList := by simp [hcs]
  rw [this] at hu
  exact World.news_of_block hcell j u hu) hs hx (by simp; omega) h
end Go.Proofs.YtcbicpbbjbkiaaaGreatDoor
namespace Go.Proofs.YtcbicpbbjbkiaaaGreatDoor
open Go.RowKit
variable {α : Type} {R : RecT α}

theorem owG_empty' (R : RecT α) {w : World} {A B L : List (Obj ⊕ Ext)} : OwG R (Go.Proofs.YtcbicpbbjbkiaaaGreatDoor.lay w (A ++ .inl (.cells #[] R.E (0, 0)) :: (B ++ L))) (Go.Proofs.YtcbicpbbjbkiaaaGreatDoor.lay w L).heap.size (.slice (some ⟨posn w (shp (B ++ L)), 0, none⟩) 0 0) [] :=
 owG_on (A := A) (((owG_empty R (w := w) (L := B ++ L))).le (by rw [lay_appG]; exact (lay_extends _ B).size))
end Go.Proofs.YtcbicpbbjbkiaaaGreatDoor
namespace Go.Proofs.YtcbicpbbjbkiaaaGreatDoor
open Go.RowKit

def nth (g : List Int) (i : Nat) : Int := g.getD i 0
theorem lay_app (w : World) (A B : List (Obj ⊕ Ext)) : lay w (A ++ B) = lay (lay w B) A := by
 induction A with
 | nil => rfl
 | cons x A ih =>
  cases x with
  | inl o => exact congrArg (fun W => World.alloc W o) ih
  | inr d => exact congrArg (fun W => bw W d) ih
theorem lay_below {w : World} {A B : List (Obj ⊕ Ext)} : Below (lay w B).heap.size (lay w B) (lay w (A ++ B)) := by rw [lay_app]; exact lay_extends _ _
def Sl (w : World) (v : Value) (l : List Int) : Prop :=
 ∃ a cap, v = .slice a l.length cap ∧ (l.length ≤ cap ∧ cap ≤ 9223372036854775807) ∧ (∀ i, i < l.length → (Lit.int .i64 (nth l i)).wf = true) ∧
  (l ≠ [] → ∃ b o, a = some ⟨b, o, none⟩ ∧ b < w.heap.size ∧ ∀ i, i < l.length → w.cell? ⟨b, o + i, none⟩ = some (.int .i64 (nth l i)))
theorem Sl.ext {w w' : World} {v : Value} {l : List Int} (h : Sl w v l) (hb : Below w.heap.size w w') : Sl w' v l := by
 obtain ⟨a, cap, h1, h2, h0, h3⟩ := h
 refine ⟨a, cap, h1, h2, h0, fun hl => ?_⟩
 obtain ⟨b, o, h4, h5, h6⟩ := h3 hl
 exact ⟨b, o, h4, Nat.lt_of_lt_of_le h5 hb.size, fun i hi => (hb.cell (p := ⟨b, o + i, none⟩) h5).trans (h6 i hi)⟩
theorem sl_on {w : World} {v : Value} {l : List Int} {A B : List (Obj ⊕ Ext)} (h : Sl (lay w B) v l) : Sl (lay w (A ++ B)) v l := h.ext lay_below
theorem Sl.nil (w : World) : Sl w (.slice none 0 0) [] := ⟨none, 0, rfl, by simp, fun i hi => absurd hi (Nat.not_lt_zero i), fun h => absurd rfl h⟩
theorem Sl.open {w : World} {v : Value} {l : List Int} (h : Sl w v l) (hl : 0 < l.length) :
  ∃ b o cap, v = .slice (some ⟨b, o, none⟩) l.length cap ∧ (l.length ≤ cap ∧ cap ≤ 9223372036854775807) ∧ (∀ i, i < l.length → (Lit.int .i64 (nth l i)).wf = true) ∧ b < w.heap.size ∧ ∀ i, i < l.length → w.cell? ⟨b, o + i, none⟩ = some (.int .i64 (nth l i)) := by
 obtain ⟨a, cap, rfl, h2, h0, h3⟩ := h
 obtain ⟨b, o, rfl, h5, h6⟩ := h3 (by intro e; rw [e] at hl; exact Nat.lt_irrefl 0 hl)
 exact ⟨b, o, cap, rfl, h2, h0, h5, h6⟩
section
variable {H : Type} {enc : TypeId × Value → H} {P : Program}
end

def Ow (w : World) (base : Nat) (v : Value) (l : List Int) : Prop :=
 w.ownsRow base 3 1 v l.length (l.map (Value.int .i64)) ∧ ∀ i, i < l.length → (Lit.int .i64 (nth l i)).wf = true
theorem Ow.form {w : World} {base : Nat} {v : Value} {l : List Int} (h : Ow w base v l) : ∃ a cap, v = .slice a l.length cap := by
 rcases h.1.2 with ⟨rfl, hz⟩ | ⟨g, cap, cur, rfl, _⟩
 ·exact ⟨none, 0, by rw [hz]⟩
 ·exact ⟨_, cap, rfl⟩
theorem Ow.form1 {w : World} {base : Nat} {v : Value} {l : List Int} (h : Ow w base v l) (hl : 0 < l.length) : ∃ g cap, v = .slice (some ⟨g, 0, none⟩) l.length cap ∧ base ≤ g ∧ g < w.heap.size ∧ l.length ≤ cap ∧ cap ≤ 9223372036854775807 := by
 rcases h.1.2 with ⟨rfl, hz⟩ | ⟨g, cap, cur, rfl, h1, h2, h3, h4, _⟩
 ·omega
 ·have hM : maxLen = 9223372036854775807 := by decide
  exact ⟨g, cap, rfl, h1, (Array.getElem?_eq_some_iff.1 h2).1, h3, by omega⟩
theorem nth_getElem? {l : List Int} {i : Nat} (h : i < l.length) : l[i]? = some (nth l i) := by simp [nth, List.getD, h]
theorem Ow.cell {w : World} {base g cap n : Nat} {l : List Int} (h : Ow w base (.slice (some ⟨g, 0, none⟩) n cap) l) {i : Nat} (hi : i < l.length) : w.cell? ⟨g, i, none⟩ = some (.int .i64 (nth l i)) := by
 have h1 := h.1
 have hn : n = l.length := by
  obtain ⟨a, c, e⟩ := h.form
  cases e; rfl
 subst hn
 rw [h1.cellAt i (by omega), List.getElem?_map, nth_getElem? hi]
 rfl
theorem Ow.sl {w : World} {base : Nat} {v : Value} {l : List Int} (h : Ow w base v l) : Sl w v l := by
 by_cases hl : l = []
 ·subst hl
  rcases h.1.2 with ⟨rfl, hz⟩ | ⟨g, cap, cur, rfl, _, _, h3, h4, _⟩
  ·exact Sl.nil w
  ·have hM : maxLen = 9223372036854775807 := by decide
   exact ⟨_, cap, rfl, ⟨h3, by omega⟩, h.2, fun hne => absurd rfl hne⟩
 ·have hl' : 0 < l.length := List.length_pos_iff.2 hl
  obtain ⟨g, cap, rfl, h1, h2, h3⟩ := h.form1 hl'
  exact ⟨_, cap, rfl, h3, h.2, fun _ => ⟨g, 0, rfl, h2, fun i hi => by rw [Nat.zero_add]; exact h.cell hi⟩⟩
theorem Ow.ext {w w' : World} {base : Nat} {v : Value} {l : List Int} (h : Ow w base v l) (hb : Below w.heap.size w w') : Ow w' base v l := by
 refine ⟨⟨h.1.1, h.1.2.imp id ?_⟩, h.2⟩
 rintro ⟨g, cap, cur, e, h1, h2, h3⟩
 exact ⟨g, cap, cur, e, h1, (hb.block g (Array.getElem?_eq_some_iff.1 h2).1).trans h2, h3⟩
theorem ow_on {w : World} {base : Nat} {v : Value} {l : List Int} {A B : List (Obj ⊕ Ext)} (h : Ow (lay w B) base v l) : Ow (lay w (A ++ B)) base v l := h.ext lay_below
theorem ow_append {l : List Int} {c : Int} (hl : ∀ i, i < l.length → (Lit.int .i64 (nth l i)).wf = true) (hc : (Lit.int .i64 c).wf = true) : ∀ i, i < (l ++ [c]).length → (Lit.int .i64 (nth (l ++ [c]) i)).wf = true := by
 intro i hi
 by_cases h : i < l.length
 ·have : nth (l ++ [c]) i = nth l i := by unfold nth; simp [List.getD, List.getElem?_append, h]
  rw [this]; exact hl i h
 ·have h2 : i = l.length := by simp at hi; omega
  have : nth (l ++ [c]) i = c := by unfold nth; simp [List.getD, h2]
  rw [this]; exact hc
theorem info_intS : (Tryz.prog.info? 3).map (fun i => (i.zero, i.size, i.bytes)) = some (some (.int .i64 0), 1, 8) := by kernel_rfl
theorem push_int {ops : Array Oper} {rest : List Oper} {o : Oper} {a : Act} {Q : Exit → Act → World → Prop} (hgd : o.guard = none) (s x : Operand)
  (ho : o.op = .call { callee := .builtin .append, args := #[s, x], argTypes := #[76, 76] })
  (W0 : World) (wb : World) (c : Int) (te : TypeId) (xb : Nat) (v : Value) (l : List Int) (hw : Below W0.heap.size W0 wb) (hown : Ow wb W0.heap.size v l)
  (hcell : wb.heap[xb]? = some (.cells #[.int .i64 c] te (0, 0))) (hs : a.eval s = v) (hx : a.eval x = .slice (some ⟨xb, 0, none⟩) 1 1)
  (hn : l.length ≤ 1000000000) (hc : (Lit.int .i64 c).wf = true)
  (h : ∀ v' d, Ow (Go.Proofs.YtcbicpbbjbkiaaaGreatDoor.bw W0 d) W0.heap.size v' (l ++ [c]) → wpList Tryz.prog ops Q rest (a.put o.dst v') (Go.Proofs.YtcbicpbbjbkiaaaGreatDoor.bw W0 d)) :
  wpList Tryz.prog ops Q (o :: rest) a wb := by
 obtain ⟨i, hi, hz0, hz1, hz2⟩ := info_parts info_intS
 have hM : maxLen = 9223372036854775807 := by decide
 refine wpList_append_lies wb hgd s x 76 ho W0.heap.size 3 i (.int .i64 0) 1 8 Tryz.underlying76 hi hz0 hz1 hz2 rfl (by decide) v l.length (l.map (Value.int .i64)) hs hown.1 ⟨xb, 0, none⟩ 1 1 [.int .i64 c] hx rfl (World.news_of_block (cs := #[.int .i64 c]) hcell) (by simp [Value.oneCell']) (by decide) (by omega) (by omega) hw.size wb.heap.size rfl ?_
 intro g cap w' hown' hg hat _
 obtain ⟨d, hd⟩ := bw_of (w := W0) (w' := w') (hw.grown hg hw.size (fun k hk => (hown.1.lt k hk).1))
 subst hd
 exact h _ d ⟨by simpa using hown', ow_append hown.2 hc⟩
end Go.Proofs.YtcbicpbbjbkiaaaGreatDoor
namespace Go.Proofs.YtcbicpbbjbkiaaaGreatDoor
open Go.RowKit

section
variable {H : Type} {enc : TypeId × Value → H} {P : Program}
end
end Go.Proofs.YtcbicpbbjbkiaaaGreatDoor
namespace Go.Proofs.YtcbicpbbjbkiaaaGreatDoor
open Go.RowKit

structure PgW where
 y : Int
 m : Int
 d : Int
 ta : Option Addr
 tn : Nat
 tc : Nat
def pgR : RecT PgW := { E := 86, S := 124, k := 4, bytes := 48, enc := fun x => [.int .i64 x.y, .int .i64 x.m, .int .i64 x.d, .slice x.ta x.tn x.tc], wf := fun x => (Lit.int .i64 x.y).wf = true ∧ (Lit.int .i64 x.m).wf = true ∧ (Lit.int .i64 x.d).wf = true }
theorem info_pg : (Tryz.prog.info? 86).map (fun i => (i.zero.map (fun z => z.cells.size), i.size, i.bytes)) = some (some 4, 4, 48) := by kernel_rfl
theorem pgOk : RecOk pgR where
 len _ := rfl
 one x u hu := by
  simp only [pgR, List.mem_cons, List.not_mem_nil, or_false] at hu
  rcases hu with rfl | rfl | rfl | rfl <;> rfl
 pos := by decide
 und := Tryz.underlying124
 info := recInfo info_pg
 small := by decide
def ClnPost {α : Type} (R : RecT α) (w : World) (l : List α) (e : Ending) (w' : World) : Prop := ∃ v' d, e = .returned v' ∧ w' = bw w d ∧ OwG R (bw w d) w.heap.size v' l
set_option maxHeartbeats 1000000 in
set_option maxRecDepth 100000 in
theorem cln_Star (v : Value) (l : List StarV) (w : World) (hv : SlG stR w v l) (hn : l.length ≤ 1000000000) :
  Calls Tryz.prog 60 #[v] w (ClnPost stR w l) := by
 unfold ClnPost
 by_cases hz : l = []
 ·subst hz
  obtain ⟨a, c, rfl⟩ := hv.form
  cases a with
  | none =>
   refine lay_start ?_
   have qT : ∀ (w : World) (a : Option Addr) (n c : Nat), (binOp .eql 125 (.slice a n c) (.slice none 0 0)).run Tryz.prog w = .ok (.bool a.isNone) w := fun w a n c => Lib.run_eql_slice_nil w _ _ a n c 0 0 stOk.und
   go_enter Tryz.func60, Tryz.ntmps60
   go_wp2_with fail
   go_ret
   exact ⟨_, noExt _, rfl, (bw_noExt _).symm, OwG.nil _ _ _⟩
  | some a =>
   refine lay_start ?_
   have HV := Lib.hid (fun L => hv.lay L)
   have qT : ∀ (w : World) (a : Option Addr) (n c : Nat), (binOp .eql 125 (.slice a n c) (.slice none 0 0)).run Tryz.prog w = .ok (.bool a.isNone) w := fun w a n c => Lib.run_eql_slice_nil w _ _ a n c 0 0 stOk.und
   go_enter Tryz.func60, Tryz.ntmps60
   go_wp2_with (at_builtin; refine push_slG stOk rfl _ _ rfl (lay w []) _ _ _ (some a) 0 c [] (lay_belowG (A := [_]) (B := [])) (owG_empty' _ (A := []) (B := []) (L := [])) (HV.out _) (fun h => by cases h) rfl rfl (by simp) ?_; intro v' d' hv')
   obtain ⟨va, vc, hve⟩ := hv'.form
   have H' := Lib.hid hv'
   subst hve
   clear hv'
   go_wp2_with fail
   go_ret
   exact ⟨_, d', rfl, rfl, H'.out⟩
 ·obtain ⟨b, o, cap, rfl, hc, hb, hr⟩ := hv.open (List.length_pos_iff.2 hz)
  have HV := Lib.hid (fun L => hv.lay L)
  have HN := Lib.hid hn
  clear hr hv hz
  refine lay_start ?_
  have qT : ∀ (w : World) (a : Option Addr) (n c : Nat), (binOp .eql 125 (.slice a n c) (.slice none 0 0)).run Tryz.prog w = .ok (.bool a.isNone) w := fun w a n c => Lib.run_eql_slice_nil w _ _ a n c 0 0 stOk.und
  go_enter Tryz.func60, Tryz.ntmps60
  go_wp2_with (at_builtin; refine push_slG stOk rfl _ _ rfl (lay w []) _ _ [] (some ⟨b, o, none⟩) l.length cap l (lay_belowG (A := [_]) (B := [])) (owG_empty' _ (A := []) (B := []) (L := [])) (HV.out _) (fun h => by cases h) rfl rfl (by simpa using HN.out) ?_; intro v' d' hv')
  obtain ⟨va, vc, hve⟩ := hv'.form
  have H' := Lib.hid hv'
  subst hve
  clear hv'
  go_wp2_with fail
  go_ret
  exact ⟨_, d', rfl, rfl, H'.out⟩
end Go.Proofs.YtcbicpbbjbkiaaaGreatDoor
namespace Go.Proofs.YtcbicpbbjbkiaaaGreatDoor
set_option maxHeartbeats 2000000
set_option maxRecDepth 100000
open Go.RowKit

theorem cln_Byte (v : Value) (l : List Int) (w : World) (hv : SlG bR w v l) (hn : l.length ≤ 1000000000) :
  Calls Tryz.prog 142 #[v] w (ClnPost bR w l) := by
 unfold ClnPost
 by_cases hz : l = []
 ·subst hz
  obtain ⟨a, c, rfl⟩ := hv.form
  cases a with
  | none =>
   refine lay_start ?_
   have qT : ∀ (w : World) (a : Option Addr) (n c : Nat), (binOp .eql 68 (.slice a n c) (.slice none 0 0)).run Tryz.prog w = .ok (.bool a.isNone) w := fun w a n c => Lib.run_eql_slice_nil w _ _ a n c 0 0 bOk.und
   go_enter Tryz.func142, Tryz.ntmps142
   go_wp2_with fail
   go_ret
   exact ⟨_, noExt _, rfl, (bw_noExt _).symm, OwG.nil _ _ _⟩
  | some a =>
   refine lay_start ?_
   have HV := Lib.hid (fun L => hv.lay L)
   have qT : ∀ (w : World) (a : Option Addr) (n c : Nat), (binOp .eql 68 (.slice a n c) (.slice none 0 0)).run Tryz.prog w = .ok (.bool a.isNone) w := fun w a n c => Lib.run_eql_slice_nil w _ _ a n c 0 0 bOk.und
   go_enter Tryz.func142, Tryz.ntmps142
   go_wp2_with (at_builtin; refine push_slG bOk rfl _ _ rfl (lay w []) _ _ _ (some a) 0 c [] (lay_belowG (A := [_]) (B := [])) (owG_empty' _ (A := []) (B := []) (L := [])) (HV.out _) (fun h => by cases h) rfl rfl (by simp) ?_; intro v' d' hv')
   obtain ⟨va, vc, hve⟩ := hv'.form
   have H' := Lib.hid hv'
   subst hve
   clear hv'
   go_wp2_with fail
   go_ret
   exact ⟨_, d', rfl, rfl, H'.out⟩
 ·obtain ⟨b, o, cap, rfl, hc, hb, hr⟩ := hv.open (List.length_pos_iff.2 hz)
  have HV := Lib.hid (fun L => hv.lay L)
  have HN := Lib.hid hn
  clear hr hv hz
  refine lay_start ?_
  have qT : ∀ (w : World) (a : Option Addr) (n c : Nat), (binOp .eql 68 (.slice a n c) (.slice none 0 0)).run Tryz.prog w = .ok (.bool a.isNone) w := fun w a n c => Lib.run_eql_slice_nil w _ _ a n c 0 0 bOk.und
  go_enter Tryz.func142, Tryz.ntmps142
  go_wp2_with (at_builtin; refine push_slG bOk rfl _ _ rfl (lay w []) _ _ [] (some ⟨b, o, none⟩) l.length cap l (lay_belowG (A := [_]) (B := [])) (owG_empty' _ (A := []) (B := []) (L := [])) (HV.out _) (fun h => by cases h) rfl rfl (by simpa using HN.out) ?_; intro v' d' hv')
  obtain ⟨va, vc, hve⟩ := hv'.form
  have H' := Lib.hid hv'
  subst hve
  clear hv'
  go_wp2_with fail
  go_ret
  exact ⟨_, d', rfl, rfl, H'.out⟩
theorem info_u8z : (Tryz.prog.info? 5).map (fun i => (i.zero, i.size, i.bytes)) = some (some (.int .u8 0), 1, 1) := by kernel_rfl
theorem zeros_u8 (n : Nat) : (Builtin.zeroCells #[.int .u8 0] n).size = n := by
 simp [Builtin.zeroCells]
theorem sl_Grow (n : Nat) (hn : n ≤ 1000000000) (w : World) :
  Calls Tryz.prog 226 #[.slice none 0 0, .int .i64 (n : Int)] w (RwB w []) := by
 by_cases h0 : n = 0
 ·subst h0
  refine lay_start ?_
  go_enter Tryz.func226, Tryz.ntmps226
  go_wp2_with fail
  exact bodyPost_ret (v := .slice none 0 0) (by simp [results, Tryz.results226, go_sem]) rfl (rwB_of (lay_ex _ _) (OwG.nil _ _ _))
 ·obtain ⟨i, hi, hz0, hz1, hz2⟩ := info_parts info_u8z
  have hM : maxLen = 9223372036854775807 := by decide
  have hr : (Builtin.append_ #[68, 3] 68 #[.slice none 0 0, .int .i64 (n : Int)]).run Tryz.prog (lay w []) = _ := Lib.run_append_nil_zeros w 68 3 68 5 i (.int .u8 0) .i64 .i64 Tryz.underlying68 Tryz.underlying3 hi hz0 n (by omega) (by rw [hz1]; decide) (by omega) (by rw [hz2]; omega)
  obtain ⟨C, hC⟩ : ∃ C, grownCap w n 0 5 = C := ⟨_, rfl⟩
  have c1 : n ≤ C := by rw [← hC]; exact grownCap_ge _ _ _ _
  have c2 : C ≤ 9223372036854775807 := by rw [← hC, ← hM]; exact grownCap_le_maxLen _ _ _ _ (by omega)
  rw [hC] at hr
  obtain ⟨cs, hcs⟩ : ∃ cs, Builtin.zeroCells (Value.int .u8 0).cells n ++ Builtin.zeroCells (Value.int .u8 0).cells (C - n) = cs := ⟨_, rfl⟩
  have hsz : cs.size = C := by
   rw [← hcs, Array.size_append, show (Value.int .u8 0).cells = #[.int .u8 0] from rfl, zeros_u8, zeros_u8]; omega
  rw [hcs] at hr
  obtain ⟨d, hd⟩ : ∃ d, w.drew.alloc (.cells cs 5) = bw w d := bw_of (((Below.refl _ _).drew).alloc (Nat.le_refl _) _)
  have hblk : (bw w d).heap[w.heap.size]? = some (.cells cs 5 (0, 0)) := by
   rw [← hd]
   show (w.heap.push _)[w.heap.size]? = _
   simp
  rw [hd] at hr
  have HO := Lib.hid (show OwG bR (bw w d) w.heap.size (.slice (some ⟨w.heap.size, 0, none⟩) 0 C) [] from ⟨⟨rfl, .inr ⟨w.heap.size, C, cs, rfl, Nat.le_refl _, hblk, Nat.zero_le _, by rw [hM]; exact c2, by rw [hsz]; exact (Nat.mul_one C).symm, rfl⟩⟩, fun _ h => absurd h List.not_mem_nil⟩)
  have hr2 := hr
  clear hr hC hcs hsz hd hblk hi hz0 hz1 hz2 hM
  refine lay_start ?_
  go_enter Tryz.func226, Tryz.ntmps226
  go_wp2_with (at_builtin; refine Lib.wpList_append_run _ rfl _ _ _ _ rfl _ _ rfl rfl _ _ hr2 ?_)
  exact bodyPost_ret (v := .slice (some ⟨w.heap.size, 0, none⟩) 0 C) (by simp [results, Tryz.results226, go_sem]) rfl ⟨_, d, rfl, rfl, HO.out⟩
def BsA (w : World) (b : Nat) (ll : List (List Int)) : Prop := b < w.heap.size ∧ ∀ j l, ll[j]? = some l → ∃ v, w.cell? ⟨b, j, none⟩ = some v ∧ SlG bR w v l ∧ NilC v
theorem flat_next {ll : List (List Int)} {j : Nat} {l : List Int} (h : ll[j]? = some l) : (ll.take (j + 1)).flatten = (ll.take j).flatten ++ l := by
 rw [List.take_add_one, h, List.flatten_append]
 simp
theorem flat_le (ll : List (List Int)) (j : Nat) : (ll.take j).flatten.length ≤ ll.flatten.length := by
 conv => rhs; rw [← List.take_append_drop j ll, List.flatten_append, List.length_append]
 omega
def flN (ll : List (List Int)) (j : Nat) : Nat := (ll.take j).flatten.length
theorem flN_next {ll : List (List Int)} {j : Nat} {l : List Int} (h : ll[j]? = some l) : flN ll (j + 1) = flN ll j + l.length := by unfold flN; rw [flat_next h, List.length_append]
theorem flN_le {ll : List (List Int)} (j : Nat) : flN ll j ≤ ll.flatten.length := flat_le ll j
theorem flN_all {ll : List (List Int)} {m : Nat} (h : m = ll.length) : flN ll m = ll.flatten.length := by unfold flN; rw [h, List.take_length]
def flT (ll : List (List Int)) (j : Nat) : List Int := (ll.take j).flatten
theorem flT_next {ll : List (List Int)} {j : Nat} {l : List Int} (h : ll[j]? = some l) : flT ll (j + 1) = flT ll j ++ l := flat_next h
theorem flT_all {ll : List (List Int)} {m : Nat} (h : m = ll.length) : flT ll m = ll.flatten := by unfold flT; rw [h, List.take_length]
theorem flT_len (ll : List (List Int)) (j : Nat) : (flT ll j).length = flN ll j := rfl
theorem sl_Concat (b cap : Nat) (ll : List (List Int)) (w : World) (hA : BsA w b ll) (hn : ll.flatten.length ≤ 100000000) (hm : ll.length ≤ 1000) :
  Calls Tryz.prog 149 #[.slice (some ⟨b, 0, none⟩) ll.length cap] w (RwB w ll.flatten) := by
 have HA := Lib.hid hA
 have hb := hA.1
 obtain ⟨T, hT⟩ : ∃ T, T = ll.flatten.length := ⟨_, rfl⟩
 obtain ⟨m, hmm⟩ : ∃ m, m = ll.length := ⟨_, rfl⟩
 have HM := Lib.hid hmm
 have HL : Hid (∀ j, flN ll j ≤ T) := Lib.hid (fun j => by rw [hT]; exact flN_le j)
 have HT : Hid (flN ll m = T) := Lib.hid (by rw [hT]; exact flN_all hmm)
 rw [← hmm] at hm ⊢
 rw [← hT] at hn
 clear hA hmm hT
 have HG := Lib.hid (fun L => sl_Grow T (by omega) (lay w L))
 refine lay_start ?_
 go_enter Tryz.func149, Tryz.ntmps149
 go_wp2_with fail
 go_loop [3, 11] (fun v3 v11 => ∃ j : Nat, j ≤ m ∧ v3 = .int .i64 (flN ll j : Int) ∧ v11 = .int .i64 (j : Int)) (fun _ v11 => m - (intOf v11).toNat)
 case atStart => exact ⟨0, Nat.zero_le _, rfl, rfl⟩
 case round =>
  obtain ⟨j, hj, rfl, rfl⟩ := hrel
  by_cases hlt : j < m
  ·obtain ⟨l, hl⟩ : ∃ l, ll[j]? = some l := ⟨_, List.getElem?_eq_getElem (by rw [← HM.out]; exact hlt)⟩
   obtain ⟨v, hc, hs, -⟩ := HA.out.2 j l hl
   obtain ⟨a, c, rfl⟩ := hs.form
   have hle := HL.out (j + 1)
   have hN := flN_next hl
   obtain ⟨F, hF⟩ : ∃ F, flN ll j = F := ⟨_, rfl⟩
   have HN := Lib.hid hN
   rw [hF] at hN HN ⊢
   obtain ⟨q, hq⟩ : ∃ q, l.length = q := ⟨_, rfl⟩
   rw [hq] at hc hN HN
   have k2 : ¬ (F : Int) + q < 0 := by omega
   have x1 : (j : Int) < m := by omega
   have k1 : wrap64 ((F : Int) + q) = F + q := by unfold wrap64; omega
   have K1 := Lib.hid k1
   clear hs hle hN hl hF hq
   go_wp2_with fail
   refine ⟨⟨j + 1, by omega, ?_, by go_num⟩, by simp [intOf]; omega⟩
   rw [K1.out, HN.out]
   rfl
  ·obtain rfl : j = m := by omega
   rw [HT.out]
   go_wp2_with (go_at_call 226; refine (HG.out _).mono ?_)
   rintro e w' ⟨v6, d6, rfl, rfl, h6⟩
   rw [lay_bw] at h6 ⊢
   have H6 := Lib.hid h6
   clear h6
   go_wp2_with fail
   go_loopw [6, 27] (fun v6 v27 wr => ∃ (i : Nat) (dd : Ext), i ≤ j ∧ v27 = .int .i64 (i : Int) ∧ wr = lay w [.inr dd] ∧ OwG bR wr w.heap.size v6 (flT ll i)) (fun _ v27 _ => j - (intOf v27).toNat)
   case atStart => exact ⟨0, d6, Nat.zero_le _, rfl, rfl, H6.out⟩
   case round =>
    obtain ⟨i, dd, hi, rfl, rfl, hO⟩ := hrel
    by_cases hlt2 : i < j
    ·obtain ⟨l, hl⟩ : ∃ l, ll[i]? = some l := ⟨_, List.getElem?_eq_getElem (by rw [← HM.out]; exact hlt2)⟩
     obtain ⟨v, hc, hs, hnc⟩ := HA.out.2 i l hl
     obtain ⟨a, c, rfl⟩ := hs.form
     have x1 : (i : Int) < j := by omega
     have H5 := Lib.hid hO
     have HS := Lib.hid hs
     have HNc := Lib.hid (hnc a _ c rfl)
     have HTn := Lib.hid (flT_next hl)
     have HTl : Hid ((flT ll i).length + l.length ≤ 1000000000) := Lib.hid (by have := HL.out (i + 1); rw [← flT_len, flT_next hl, List.length_append] at this; omega)
     have hc2 : (lay w [.inr dd]).cell? ⟨b, i, none⟩ = some (.slice a l.length c) := cell_on (w := w) (L := []) hc _
     obtain ⟨va, vc, hve⟩ := hO.form
     subst hve
     clear hO hs hnc hl hc
     go_wp2_with (at_builtin; refine push_slG bOk rfl _ _ rfl w (lay w [.inr dd]) _ _ a l.length c l (lay_extends w _) H5.out (HS.out.lay _) HNc.out rfl rfl HTl.out ?_; intro v' d' hv'; rw [show Go.Proofs.YtcbicpbbjbkiaaaGreatDoor.bw w d' = lay w [.inr d'] from rfl] at hv' ⊢)
     go_roundw
     case rel => exact ⟨i + 1, d', by omega, by go_num, rfl, by rw [HTn.out]; exact hv'⟩
     case measure => simp [intOf]; omega
    ·obtain rfl : i = j := by omega
     have H5 := Lib.hid hO
     obtain ⟨va, vc, hve⟩ := hO.form
     subst hve
     clear hO
     have x1 : ¬ (i : Int) < i := by omega
     go_wp2_with fail
     exact bodyPost_ret (v := .slice va (flT ll i).length vc) (by simp [results, Tryz.results149, go_sem]) rfl (rwB_of (lay_ex _ _) (by rw [← flT_all HM.out]; exact H5.out))
end Go.Proofs.YtcbicpbbjbkiaaaGreatDoor
namespace Go.Proofs.YtcbicpbbjbkiaaaGreatDoor
open Go.RowKit

set_option maxHeartbeats 2000000 in
set_option maxRecDepth 100000 in
theorem jn_frame (v : Value) (l : List Int) (w : World) (hv : SlG bR w v l) (hn : NilC v) (hl : l.length ≤ 1000000) :
  Calls Tryz.prog 148 #[v] w (RwB w (frF l)) := by
 obtain ⟨a, c, rfl⟩ := hv.form
 have HV := Lib.hid (fun L => hv.lay L)
 have HNv := Lib.hid hn
 have hlen : frF l = [be4 (l.length : Int), l].flatten ++ be4 (sumF [be4 (l.length : Int), l].flatten) := by simp [frF, hdF]
 have hfl : [be4 (l.length : Int), l].flatten.length = l.length + 4 := by simp [be4]
 obtain ⟨H, hH⟩ : ∃ H, [be4 (l.length : Int), l].flatten = H := ⟨_, rfl⟩
 rw [hlen]
 rw [hH] at hfl ⊢
 have HH := Lib.hid hH
 have HL := Lib.hid hfl
 have HN := Lib.hid (fun W => jn_number (l.length : Int) (by omega) (by omega) W)
 have k1 : IntKind.u32.wrap (l.length : Int) = l.length := IntWalk.u32_in _ (by omega)
 obtain ⟨s0, s1⟩ := sumF_bd H
 have HN2 := Lib.hid (fun W => jn_number (sumF H) s0 s1 W)
 obtain ⟨m, hm⟩ : ∃ m, l.length = m := ⟨_, rfl⟩
 have HM := Lib.hid hm
 rw [hm] at HN k1 hl ⊢
 clear hv hn hlen hH hfl hm
 refine lay_start ?_
 go_enter Tryz.func148, Tryz.ntmps148
 go_wp2_with (go_at_call 225; refine (HN.out _).mono ?_)
 rintro e w' ⟨v1, d1, rfl, rfl, h1⟩
 rw [lay_bw] at h1 ⊢
 obtain ⟨va, vc, hve⟩ := h1.form
 rw [be4_len] at hve
 subst hve
 have H1 := Lib.hid h1
 clear h1
 go_wp2_with fail
 have hA : BsA (lay w [.inl (.cells #[.slice va 4 vc, .slice a m c] 68), .inr d1]) (posn w [d1.n]) [be4 (m : Int), l] := by
  refine ⟨by simp [go_sem]; unfold posn; simp, fun j x hx => ?_⟩
  rcases j with _ | _ | j
  ·simp only [List.getElem?_cons_zero, Option.some.injEq] at hx
   subst hx
   exact ⟨.slice va 4 vc, by simp [go_sem], (H1.out.sl bOk).ext (lay_belowG (A := [_]) (B := [.inr d1])), H1.out.nilc⟩
  ·simp only [List.getElem?_cons_succ, List.getElem?_cons_zero, Option.some.injEq] at hx
   subst hx
   exact ⟨.slice a m c, by simp [go_sem], by rw [← HM.out]; exact HV.out _, by rw [← HM.out]; exact HNv.out⟩
  ·simp at hx
 have hC := sl_Concat (posn w [d1.n]) 2 [be4 (m : Int), l] _ hA (by have := HL.out; rw [HM.out] at this; have h2 := HH.out; rw [HM.out] at h2; rw [h2, this]; omega) (by simp)
 rw [show [be4 (m : Int), l].flatten = H from by rw [← HM.out]; exact HH.out] at hC
 refine hC.mono ?_
 rintro e w' ⟨v2, d2, rfl, rfl, h2⟩
 rw [lay_bw] at h2 ⊢
 clear hC hA
 obtain ⟨vb, vd, hve⟩ := h2.form
 rw [HL.out, HM.out] at hve
 subst hve
 have H2 := Lib.hid (h2.le (base' := w.heap.size) (by simp [go_sem]))
 clear h2
 go_wp2_with fail
 refine (jn_sum _ H _ (H2.out.sl bOk) (by rw [HL.out, HM.out]; omega)).mono ?_
 rintro e w' ⟨rfl, rfl⟩
 go_wp2_with fail
 refine (HN2.out _).mono ?_
 rintro e w' ⟨v3, d3, rfl, rfl, h3⟩
 rw [lay_bw] at h3 ⊢
 obtain ⟨ve, vf, hve⟩ := h3.form
 rw [be4_len] at hve
 subst hve
 have H3 := Lib.hid h3
 clear h3
 go_wp2_with (at_builtin; refine push_slG bOk rfl _ _ rfl w _ _ H ve 4 vf (be4 (sumF H)) (lay_extends w _) (H2.out.ext (lay_belowG (A := [.inr d3]) (B := [.inr d2, .inl (.cells #[.slice va 4 vc, .slice a m c] 68), .inr d1]))) (H3.out.sl bOk) (H3.out.nilc _ _ _ rfl) rfl rfl (by rw [HL.out, HM.out, be4_len]; omega) ?_; intro v' d' hv'; rw [show Go.Proofs.YtcbicpbbjbkiaaaGreatDoor.bw w d' = lay w [.inr d'] from rfl] at hv' ⊢)
 obtain ⟨vg, vh, hve⟩ := hv'.form
 subst hve
 have H4 := Lib.hid hv'
 clear hv'
 go_wp2_with fail
 exact bodyPost_ret (v := .slice vg (H ++ be4 (sumF H)).length vh) (by simp [results, Tryz.results148, go_sem]) rfl (rwB_of (lay_ex _ _) H4.out)
end Go.Proofs.YtcbicpbbjbkiaaaGreatDoor
namespace Go.Proofs
open Go.Shelf
def Tryz.lays169_ren : Go.Shelf.Ren := ⟨fun | 169 => 83 | n => n, fun | 70 => 161 | 9 => 9 | 0 => 0 | 72 => 163 | 37 => 68 | 127 => 240 | 3 => 3 | 5 => 5 | n => n, fun | n => n⟩
theorem Tryz.lays169 : Go.Proofs.Lays.n169 Tryz.prog Tryz.lays169_ren := {
 mixed := by kernel_rfl
 f169 := Tryz.func83.trans (congrArg some (by kernel_rfl))
 t0 := Tryz.underlying0
 a0 := Tryz.isAgg0
 z0 := Tryz.sizeOf0
 v0 := Tryz.zeroValue0
 t3 := Tryz.underlying3
 a3 := Tryz.isAgg3
 z3 := Tryz.sizeOf3
 v3 := Tryz.zeroValue3
 t9 := Tryz.underlying9
 a9 := Tryz.isAgg9
 z9 := Tryz.sizeOf9
 v9 := Tryz.zeroValue9
 t37 := Tryz.underlying68
 a37 := Tryz.isAgg68
 z37 := Tryz.sizeOf68
 v37 := Tryz.zeroValue68
 t70 := Tryz.underlying161
 a70 := Tryz.isAgg161
 z70 := Tryz.sizeOf161
 v70 := Tryz.zeroValue161
 t72 := Tryz.underlying163
 a72 := Tryz.isAgg163
 z72 := Tryz.sizeOf163
 v72 := Tryz.zeroValue163
 t127 := Tryz.underlying240
 a127 := Tryz.isAgg240
 z127 := Tryz.sizeOf240
 v127 := Tryz.zeroValue240 }
theorem Tryz.Builder_Extra_169 : Builder.Extra Tryz.prog Tryz.lays169_ren := {
 sizeBuilder := by kernel_rfl
 liesBuilder := by kernel_rfl
 t5 := Tryz.underlying5
 a5 := Tryz.isAgg5
 z5 := Tryz.sizeOf5
 v5 := Tryz.zeroValue5
 infoByte := by kernel_rfl
 cellsByte := by kernel_rfl
 sizeByte := by kernel_rfl
 neB5 := by decide }
open Go.RowKit in
theorem Tryz.Builder_String_any (B b : Nat) (l : List UInt8) (w : World) (h : Lib.IsBuilder 163 5 B b (Lib.byteCells l) w) (hBw : B ≤ w.heap.size) :
  Calls Tryz.prog 83 #[.pointer (some ⟨b, 0, none⟩)] w fun e w' => e = .returned (.string ⟨l.toArray⟩) ∧ Below B w w' := Any.Builder_String_any Tryz.lays169 Tryz.Builder_Extra_169 B b l w h hBw
def Tryz.lays134_ren : Go.Shelf.Ren := ⟨fun | 134 => 328 | 129 => 271 | n => n, fun | 53 => 292 | 3 => 3 | 4 => 4 | 46 => 97 | 5 => 5 | 9 => 9 | n => n, fun | n => n⟩
theorem Tryz.lays134 : Go.Proofs.Lays.n134 Tryz.prog Tryz.lays134_ren := {
 mixed := by kernel_rfl
 f129 := Tryz.func271.trans (congrArg some (by kernel_rfl))
 f134 := Tryz.func328.trans (congrArg some (by kernel_rfl))
 t3 := Tryz.underlying3
 a3 := Tryz.isAgg3
 z3 := Tryz.sizeOf3
 v3 := Tryz.zeroValue3
 t4 := Tryz.underlying4
 a4 := Tryz.isAgg4
 z4 := Tryz.sizeOf4
 v4 := Tryz.zeroValue4
 t5 := Tryz.underlying5
 a5 := Tryz.isAgg5
 z5 := Tryz.sizeOf5
 v5 := Tryz.zeroValue5
 t9 := Tryz.underlying9
 a9 := Tryz.isAgg9
 z9 := Tryz.sizeOf9
 v9 := Tryz.zeroValue9
 t46 := Tryz.underlying97
 a46 := Tryz.isAgg97
 z46 := Tryz.sizeOf97
 v46 := Tryz.zeroValue97
 t53 := Tryz.underlying292
 a53 := Tryz.isAgg292
 z53 := Tryz.sizeOf292
 v53 := Tryz.zeroValue292 }
theorem Tryz.bits_LeadingZeros64 (x : Int) (w : World) (h0 : 0 ≤ x) (h1 : x ≤ 18446744073709551615) :
  Calls Tryz.prog 328 #[.int .u64 x] w fun e w' => e = .returned (.int .i64 (64 - (Lib.bitLen x.toNat : Int))) ∧ w' = w := Any.bits_LeadingZeros64 Tryz.lays134 x w h0 h1
def Tryz.lays103_ren : Go.Shelf.Ren := ⟨fun | 103 => 113 | 210 => 199 | 206 => 84 | n => n, fun | 9 => 9 | 4 => 4 | 24 => 192 | 3 => 3 | n => n, fun | n => n⟩
theorem Tryz.lays103 : Go.Proofs.Lays.n103 Tryz.prog Tryz.lays103_ren := {
 mixed := by kernel_rfl
 f103 := Tryz.func113.trans (congrArg some (by kernel_rfl))
 f206 := Tryz.func84.trans (congrArg some (by kernel_rfl))
 f210 := Tryz.func199.trans (congrArg some (by kernel_rfl))
 t3 := Tryz.underlying3
 a3 := Tryz.isAgg3
 z3 := Tryz.sizeOf3
 v3 := Tryz.zeroValue3
 t4 := Tryz.underlying4
 a4 := Tryz.isAgg4
 z4 := Tryz.sizeOf4
 v4 := Tryz.zeroValue4
 t9 := Tryz.underlying9
 a9 := Tryz.isAgg9
 z9 := Tryz.sizeOf9
 v9 := Tryz.zeroValue9
 t24 := Tryz.underlying192
 a24 := Tryz.isAgg192
 z24 := Tryz.sizeOf192
 v24 := Tryz.zeroValue192 }
open Go.RowKit in
theorem Tryz.strings_CutPrefix (s p : ByteArray) (w : World) :
  Calls Tryz.prog 113 #[.string s, .string p] w fun e w' => e = .returned (.tuple #[.string ⟨(Lib.trimPrefix s.data.toList p.data.toList).toArray⟩, .bool (Lib.hasPrefix s.data.toList p.data.toList)]) ∧ w' = w := Any.strings_CutPrefix Tryz.lays103 s p w
def Tryz.laysM171_ren : Go.Shelf.Ren := ⟨fun | 171 => 81 | 243 => 156 | 246 => 232 | 283 => 281 | 284 => 282 | 285 => 283 | 286 => 284 | 129 => 271 | 317 => 312 | 318 => 313 | 319 => 314 | 320 => 315 | 337 => 338 | 338 => 339 | n => n, fun | 3 => 3 | 9 => 9 | 2 => 2 | 4 => 4 | 171 => 322 | 0 => 0 | 53 => 292 | 37 => 68 | 5 => 5 | 173 => 324 | 212 => 346 | 51 => 276 | 20 => 20 | 213 => 347 | 46 => 97 | 232 => 375 | 233 => 376 | n => n, fun | 17 => 1 | 18 => 4 | 19 => 5 | n => n⟩
theorem Tryz.laysM171 : Go.Proofs.LaysM.n171 Tryz.prog Tryz.laysM171_ren := {
 mixed := by kernel_rfl
 f129 := Tryz.func271.trans (congrArg some (by kernel_rfl))
 f171 := Tryz.func81.trans (congrArg some (by kernel_rfl))
 f243 := Tryz.func156.trans (congrArg some (by kernel_rfl))
 f246 := Tryz.func232.trans (congrArg some (by kernel_rfl))
 f283 := Tryz.func281.trans (congrArg some (by kernel_rfl))
 f284 := Tryz.func282.trans (congrArg some (by kernel_rfl))
 f285 := Tryz.func283.trans (congrArg some (by kernel_rfl))
 f286 := Tryz.func284.trans (congrArg some (by kernel_rfl))
 f317 := Tryz.func312.trans (congrArg some (by kernel_rfl))
 f318 := Tryz.func313.trans (congrArg some (by kernel_rfl))
 f319 := Tryz.func314.trans (congrArg some (by kernel_rfl))
 f320 := Tryz.func315.trans (congrArg some (by kernel_rfl))
 f337 := Tryz.func338.trans (congrArg some (by kernel_rfl))
 f338 := Tryz.func339.trans (congrArg some (by kernel_rfl))
 t0 := Tryz.underlying0
 a0 := Tryz.isAgg0
 z0 := Tryz.sizeOf0
 v0 := Tryz.zeroValue0
 t2 := Tryz.underlying2
 a2 := Tryz.isAgg2
 z2 := Tryz.sizeOf2
 v2 := Tryz.zeroValue2
 t3 := Tryz.underlying3
 a3 := Tryz.isAgg3
 z3 := Tryz.sizeOf3
 v3 := Tryz.zeroValue3
 t4 := Tryz.underlying4
 a4 := Tryz.isAgg4
 z4 := Tryz.sizeOf4
 v4 := Tryz.zeroValue4
 t5 := Tryz.underlying5
 a5 := Tryz.isAgg5
 z5 := Tryz.sizeOf5
 v5 := Tryz.zeroValue5
 t9 := Tryz.underlying9
 a9 := Tryz.isAgg9
 z9 := Tryz.sizeOf9
 v9 := Tryz.zeroValue9
 t20 := Tryz.underlying20
 a20 := Tryz.isAgg20
 z20 := Tryz.sizeOf20
 v20 := Tryz.zeroValue20
 t37 := Tryz.underlying68
 a37 := Tryz.isAgg68
 z37 := Tryz.sizeOf68
 v37 := Tryz.zeroValue68
 t46 := Tryz.underlying97
 a46 := Tryz.isAgg97
 z46 := Tryz.sizeOf97
 v46 := Tryz.zeroValue97
 t51 := Tryz.underlying276
 a51 := Tryz.isAgg276
 z51 := Tryz.sizeOf276
 v51 := Tryz.zeroValue276
 t53 := Tryz.underlying292
 a53 := Tryz.isAgg292
 z53 := Tryz.sizeOf292
 v53 := Tryz.zeroValue292
 t171 := Tryz.underlying322
 a171 := Tryz.isAgg322
 z171 := Tryz.sizeOf322
 v171 := Tryz.zeroValue322
 t173 := Tryz.underlying324
 a173 := Tryz.isAgg324
 z173 := Tryz.sizeOf324
 v173 := Tryz.zeroValue324
 t212 := Tryz.underlying346
 a212 := Tryz.isAgg346
 z212 := Tryz.sizeOf346
 v212 := Tryz.zeroValue346
 t213 := Tryz.underlying347
 a213 := Tryz.isAgg347
 z213 := Tryz.sizeOf347
 t232 := Tryz.underlying375
 a232 := Tryz.isAgg375
 z232 := Tryz.sizeOf375
 v232 := Tryz.zeroValue375
 t233 := Tryz.underlying376
 a233 := Tryz.isAgg376
 z233 := Tryz.sizeOf376
 v233 := Tryz.zeroValue376
 g17 := by kernel_rfl
 g18 := by kernel_rfl
 g19 := by kernel_rfl
 i0 := by kernel_rfl
 i2 := by kernel_rfl
 i3 := by kernel_rfl
 i4 := by kernel_rfl
 i5 := by kernel_rfl
 i9 := by kernel_rfl
 i20 := by kernel_rfl
 i37 := by kernel_rfl
 i46 := by kernel_rfl
 i51 := by kernel_rfl
 i53 := by kernel_rfl
 i171 := by kernel_rfl
 i173 := by kernel_rfl
 i212 := by kernel_rfl
 i232 := by kernel_rfl
 i233 := by kernel_rfl
 m17 := by kernel_rfl
 m18 := by kernel_rfl
 m19 := by kernel_rfl }
open Go.RowKit Go.Sort Go.Lib in
theorem Tryz.strconv_Itoa (n : Int) (h0 : -9223372036854775808 ≤ n) (h1 : n ≤ 9223372036854775807) (w : World) (htab : Lib.TabIs Tryz.prog w "internal/strconv.uint64pow10" .u64 Lib.pow10Tab) :
  Calls Tryz.prog 81 #[.int .i64 n] w fun e w' => e = .returned (.string ⟨(Lib.itoa n).toArray⟩) ∧ ∃ k os, w' = grow (w.drewN k) os := Any.strconv_Itoa Tryz.laysM171 n h0 h1 w htab
def Tryz.lays145_ren : Go.Shelf.Ren := ⟨fun | 145 => 11 | 220 => 50 | 219 => 112 | 217 => 195 | 225 => 196 | 224 => 197 | 267 => 198 | 266 => 251 | 314 => 252 | n => n, fun | 9 => 9 | 4 => 4 | 59 => 57 | 3 => 3 | 5 => 5 | 46 => 97 | 146 => 299 | 51 => 276 | n => n, fun | 1 => 0 | n => n⟩
theorem Tryz.lays145 : Go.Proofs.Lays.n145 Tryz.prog Tryz.lays145_ren := {
 mixed := by kernel_rfl
 f145 := Tryz.func11.trans (congrArg some (by kernel_rfl))
 f217 := Tryz.func195.trans (congrArg some (by kernel_rfl))
 f219 := Tryz.func112.trans (congrArg some (by kernel_rfl))
 f220 := Tryz.func50.trans (congrArg some (by kernel_rfl))
 f224 := Tryz.func197.trans (congrArg some (by kernel_rfl))
 f225 := Tryz.func196.trans (congrArg some (by kernel_rfl))
 f266 := Tryz.func251.trans (congrArg some (by kernel_rfl))
 f267 := Tryz.func198.trans (congrArg some (by kernel_rfl))
 f314 := Tryz.func252.trans (congrArg some (by kernel_rfl))
 t3 := Tryz.underlying3
 a3 := Tryz.isAgg3
 z3 := Tryz.sizeOf3
 v3 := Tryz.zeroValue3
 t4 := Tryz.underlying4
 a4 := Tryz.isAgg4
 z4 := Tryz.sizeOf4
 v4 := Tryz.zeroValue4
 t5 := Tryz.underlying5
 a5 := Tryz.isAgg5
 z5 := Tryz.sizeOf5
 v5 := Tryz.zeroValue5
 t9 := Tryz.underlying9
 a9 := Tryz.isAgg9
 z9 := Tryz.sizeOf9
 v9 := Tryz.zeroValue9
 t46 := Tryz.underlying97
 a46 := Tryz.isAgg97
 z46 := Tryz.sizeOf97
 v46 := Tryz.zeroValue97
 t51 := Tryz.underlying276
 a51 := Tryz.isAgg276
 z51 := Tryz.sizeOf276
 v51 := Tryz.zeroValue276
 t59 := Tryz.underlying57
 a59 := Tryz.isAgg57
 z59 := Tryz.sizeOf57
 v59 := Tryz.zeroValue57
 t146 := Tryz.underlying299
 a146 := Tryz.isAgg299
 z146 := Tryz.sizeOf299
 v146 := Tryz.zeroValue299
 g1 := by kernel_rfl }
open Go.RowKit Go.Lib in
theorem Tryz.strings_Cut (s sep : ByteArray) (m : Int) (w : World) (hs : s.size < 4294967281) (hm : w.cell? ⟨0, 0, none⟩ = some (.int .i64 m)) :
  Calls Tryz.prog 11 #[.string s, .string sep] w fun e w' => e = .returned (.tuple #[.string ⟨(Lib.cut s.data.toList sep.data.toList).1.toArray⟩, .string ⟨(Lib.cut s.data.toList sep.data.toList).2.1.toArray⟩, .bool (Lib.cut s.data.toList sep.data.toList).2.2]) ∧ ∃ n, w' = w.drewN n := Any.strings_Cut Tryz.lays145 s sep m w hs hm
def Tryz.lays190_ren : Go.Shelf.Ren := ⟨fun | 190 => 127 | 125 => 211 | 258 => 210 | 128 => 270 | 129 => 271 | 302 => 261 | 303 => 262 | 304 => 263 | 305 => 264 | 306 => 265 | 307 => 266 | 308 => 267 | 309 => 268 | 310 => 269 | 333 => 301 | 329 => 302 | 330 => 303 | 334 => 304 | 335 => 305 | 336 => 306 | 344 => 327 | n => n, fun | 31 => 136 | 9 => 9 | 3 => 3 | 46 => 97 | 0 => 0 | 51 => 276 | 53 => 292 | 4 => 4 | 183 => 308 | 182 => 307 | 131 => 189 | 5 => 5 | 218 => 337 | 222 => 235 | 228 => 361 | 229 => 289 | n => n, fun | n => n⟩
theorem Tryz.lays190 : Go.Proofs.Lays.n190 Tryz.prog Tryz.lays190_ren := {
 mixed := by kernel_rfl
 f125 := Tryz.func211.trans (congrArg some (by kernel_rfl))
 f128 := Tryz.func270.trans (congrArg some (by kernel_rfl))
 f129 := Tryz.func271.trans (congrArg some (by kernel_rfl))
 f190 := Tryz.func127.trans (congrArg some (by kernel_rfl))
 f258 := Tryz.func210.trans (congrArg some (by kernel_rfl))
 f302 := Tryz.func261.trans (congrArg some (by kernel_rfl))
 f303 := Tryz.func262.trans (congrArg some (by kernel_rfl))
 f304 := Tryz.func263.trans (congrArg some (by kernel_rfl))
 f305 := Tryz.func264.trans (congrArg some (by kernel_rfl))
 f306 := Tryz.func265.trans (congrArg some (by kernel_rfl))
 f307 := Tryz.func266.trans (congrArg some (by kernel_rfl))
 f308 := Tryz.func267.trans (congrArg some (by kernel_rfl))
 f309 := Tryz.func268.trans (congrArg some (by kernel_rfl))
 f310 := Tryz.func269.trans (congrArg some (by kernel_rfl))
 f329 := Tryz.func302.trans (congrArg some (by kernel_rfl))
 f330 := Tryz.func303.trans (congrArg some (by kernel_rfl))
 f333 := Tryz.func301.trans (congrArg some (by kernel_rfl))
 f334 := Tryz.func304.trans (congrArg some (by kernel_rfl))
 f335 := Tryz.func305.trans (congrArg some (by kernel_rfl))
 f336 := Tryz.func306.trans (congrArg some (by kernel_rfl))
 f344 := Tryz.func327.trans (congrArg some (by kernel_rfl))
 t0 := Tryz.underlying0
 a0 := Tryz.isAgg0
 z0 := Tryz.sizeOf0
 v0 := Tryz.zeroValue0
 t3 := Tryz.underlying3
 a3 := Tryz.isAgg3
 z3 := Tryz.sizeOf3
 v3 := Tryz.zeroValue3
 t4 := Tryz.underlying4
 a4 := Tryz.isAgg4
 z4 := Tryz.sizeOf4
 v4 := Tryz.zeroValue4
 t5 := Tryz.underlying5
 a5 := Tryz.isAgg5
 z5 := Tryz.sizeOf5
 v5 := Tryz.zeroValue5
 t9 := Tryz.underlying9
 a9 := Tryz.isAgg9
 z9 := Tryz.sizeOf9
 v9 := Tryz.zeroValue9
 t31 := Tryz.underlying136
 a31 := Tryz.isAgg136
 z31 := Tryz.sizeOf136
 v31 := Tryz.zeroValue136
 t46 := Tryz.underlying97
 a46 := Tryz.isAgg97
 z46 := Tryz.sizeOf97
 v46 := Tryz.zeroValue97
 t51 := Tryz.underlying276
 a51 := Tryz.isAgg276
 z51 := Tryz.sizeOf276
 v51 := Tryz.zeroValue276
 t53 := Tryz.underlying292
 a53 := Tryz.isAgg292
 z53 := Tryz.sizeOf292
 v53 := Tryz.zeroValue292
 t131 := Tryz.underlying189
 a131 := Tryz.isAgg189
 z131 := Tryz.sizeOf189
 v131 := Tryz.zeroValue189
 t182 := Tryz.underlying307
 a182 := Tryz.isAgg307
 z182 := Tryz.sizeOf307
 v182 := Tryz.zeroValue307
 t183 := Tryz.underlying308
 a183 := Tryz.isAgg308
 z183 := Tryz.sizeOf308
 v183 := Tryz.zeroValue308
 t218 := Tryz.underlying337
 a218 := Tryz.isAgg337
 z218 := Tryz.sizeOf337
 v218 := Tryz.zeroValue337
 t222 := Tryz.underlying235
 a222 := Tryz.isAgg235
 z222 := Tryz.sizeOf235
 v222 := Tryz.zeroValue235
 t228 := Tryz.underlying361
 a228 := Tryz.isAgg361
 z228 := Tryz.sizeOf361
 v228 := Tryz.zeroValue361
 t229 := Tryz.underlying289
 a229 := Tryz.isAgg289
 z229 := Tryz.sizeOf289
 v229 := Tryz.zeroValue289 }
def Tryz.lays99_ren : Go.Shelf.Ren := ⟨fun | 99 => 22 | 206 => 84 | n => n, fun | 9 => 9 | 4 => 4 | 3 => 3 | n => n, fun | n => n⟩
theorem Tryz.lays99 : Go.Proofs.Lays.n99 Tryz.prog Tryz.lays99_ren := {
 mixed := by kernel_rfl
 f99 := Tryz.func22.trans (congrArg some (by kernel_rfl))
 f206 := Tryz.func84.trans (congrArg some (by kernel_rfl))
 t3 := Tryz.underlying3
 a3 := Tryz.isAgg3
 z3 := Tryz.sizeOf3
 v3 := Tryz.zeroValue3
 t4 := Tryz.underlying4
 a4 := Tryz.isAgg4
 z4 := Tryz.sizeOf4
 v4 := Tryz.zeroValue4
 t9 := Tryz.underlying9
 a9 := Tryz.isAgg9
 z9 := Tryz.sizeOf9
 v9 := Tryz.zeroValue9 }
open Go.RowKit Go.Lib in
theorem Tryz.strings_HasPrefix (s p : ByteArray) (w : World) :
  Calls Tryz.prog 22 #[.string s, .string p] w fun e w' => e = .returned (.bool (Lib.hasPrefix s.data.toList p.data.toList)) ∧ w' = w := Any.strings_HasPrefix Tryz.lays99 s p w
def Tryz.lays264_ren : Go.Shelf.Ren := ⟨fun | 264 => 296 | n => n, fun | 53 => 292 | 46 => 97 | n => n, fun | n => n⟩
theorem Tryz.lays264 : Go.Proofs.Lays.n264 Tryz.prog Tryz.lays264_ren := {
 mixed := by kernel_rfl
 f264 := Tryz.func296.trans (congrArg some (by kernel_rfl))
 t46 := Tryz.underlying97
 a46 := Tryz.isAgg97
 z46 := Tryz.sizeOf97
 v46 := Tryz.zeroValue97
 t53 := Tryz.underlying292
 a53 := Tryz.isAgg292
 z53 := Tryz.sizeOf292
 v53 := Tryz.zeroValue292 }
open Go.RowKit Go.Lib in
theorem Tryz.bits_Mul64 (x y : Nat) (hx : x < 18446744073709551616) (hy : y < 18446744073709551616) (w : World) :
  Calls Tryz.prog 296 #[.int .u64 x, .int .u64 y] w fun e w' => e = .returned (.tuple #[.int .u64 ((x * y / 18446744073709551616 : Nat) : Int), .int .u64 ((x * y % 18446744073709551616 : Nat) : Int)]) ∧ w' = w := Any.bits_Mul64 Tryz.lays264 x y hx hy w
def Tryz.lays105_ren : Go.Shelf.Ren := ⟨fun | 105 => 200 | 212 => 253 | 99 => 22 | 165 => 254 | 166 => 79 | 170 => 255 | 169 => 83 | 263 => 298 | 264 => 296 | 206 => 84 | 240 => 154 | 241 => 299 | 276 => 229 | 277 => 326 | n => n, fun | 9 => 9 | 3 => 3 | 4 => 4 | 20 => 20 | 0 => 0 | 46 => 97 | 109 => 301 | 5 => 5 | 72 => 163 | 76 => 166 | 51 => 276 | 146 => 299 | 53 => 292 | 148 => 332 | 70 => 161 | 37 => 68 | 75 => 165 | 127 => 240 | 164 => 282 | 80 => 170 | n => n, fun | n => n⟩
theorem Tryz.lays105 : Go.Proofs.Lays.n105 Tryz.prog Tryz.lays105_ren := {
 mixed := by kernel_rfl
 f99 := Tryz.func22.trans (congrArg some (by kernel_rfl))
 f105 := Tryz.func200.trans (congrArg some (by kernel_rfl))
 f165 := Tryz.func254.trans (congrArg some (by kernel_rfl))
 f166 := Tryz.func79.trans (congrArg some (by kernel_rfl))
 f169 := Tryz.func83.trans (congrArg some (by kernel_rfl))
 f170 := Tryz.func255.trans (congrArg some (by kernel_rfl))
 f206 := Tryz.func84.trans (congrArg some (by kernel_rfl))
 f212 := Tryz.func253.trans (congrArg some (by kernel_rfl))
 f240 := Tryz.func154.trans (congrArg some (by kernel_rfl))
 f241 := Tryz.func299.trans (congrArg some (by kernel_rfl))
 f263 := Tryz.func298.trans (congrArg some (by kernel_rfl))
 f264 := Tryz.func296.trans (congrArg some (by kernel_rfl))
 f276 := Tryz.func229.trans (congrArg some (by kernel_rfl))
 f277 := Tryz.func326.trans (congrArg some (by kernel_rfl))
 t0 := Tryz.underlying0
 a0 := Tryz.isAgg0
 z0 := Tryz.sizeOf0
 v0 := Tryz.zeroValue0
 t3 := Tryz.underlying3
 a3 := Tryz.isAgg3
 z3 := Tryz.sizeOf3
 v3 := Tryz.zeroValue3
 t4 := Tryz.underlying4
 a4 := Tryz.isAgg4
 z4 := Tryz.sizeOf4
 v4 := Tryz.zeroValue4
 t5 := Tryz.underlying5
 a5 := Tryz.isAgg5
 z5 := Tryz.sizeOf5
 v5 := Tryz.zeroValue5
 t9 := Tryz.underlying9
 a9 := Tryz.isAgg9
 z9 := Tryz.sizeOf9
 v9 := Tryz.zeroValue9
 t20 := Tryz.underlying20
 a20 := Tryz.isAgg20
 z20 := Tryz.sizeOf20
 v20 := Tryz.zeroValue20
 t37 := Tryz.underlying68
 a37 := Tryz.isAgg68
 z37 := Tryz.sizeOf68
 v37 := Tryz.zeroValue68
 t46 := Tryz.underlying97
 a46 := Tryz.isAgg97
 z46 := Tryz.sizeOf97
 v46 := Tryz.zeroValue97
 t51 := Tryz.underlying276
 a51 := Tryz.isAgg276
 z51 := Tryz.sizeOf276
 v51 := Tryz.zeroValue276
 t53 := Tryz.underlying292
 a53 := Tryz.isAgg292
 z53 := Tryz.sizeOf292
 v53 := Tryz.zeroValue292
 t70 := Tryz.underlying161
 a70 := Tryz.isAgg161
 z70 := Tryz.sizeOf161
 v70 := Tryz.zeroValue161
 t72 := Tryz.underlying163
 a72 := Tryz.isAgg163
 z72 := Tryz.sizeOf163
 v72 := Tryz.zeroValue163
 t75 := Tryz.underlying165
 a75 := Tryz.isAgg165
 z75 := Tryz.sizeOf165
 v75 := Tryz.zeroValue165
 t76 := Tryz.underlying166
 a76 := Tryz.isAgg166
 z76 := Tryz.sizeOf166
 v76 := Tryz.zeroValue166
 t109 := Tryz.underlying301
 a109 := Tryz.isAgg301
 z109 := Tryz.sizeOf301
 v109 := Tryz.zeroValue301
 t127 := Tryz.underlying240
 a127 := Tryz.isAgg240
 z127 := Tryz.sizeOf240
 v127 := Tryz.zeroValue240
 t146 := Tryz.underlying299
 a146 := Tryz.isAgg299
 z146 := Tryz.sizeOf299
 v146 := Tryz.zeroValue299
 t148 := Tryz.underlying332
 a148 := Tryz.isAgg332
 z148 := Tryz.sizeOf332
 v148 := Tryz.zeroValue332
 t164 := Tryz.underlying282
 a164 := Tryz.isAgg282
 z164 := Tryz.sizeOf282
 v164 := Tryz.zeroValue282 }
theorem Tryz.Builder_Extra_105 : Builder.Extra Tryz.prog Tryz.lays105_ren := {
 sizeBuilder := by kernel_rfl
 liesBuilder := by kernel_rfl
 t5 := Tryz.underlying5
 a5 := Tryz.isAgg5
 z5 := Tryz.sizeOf5
 v5 := Tryz.zeroValue5
 infoByte := by kernel_rfl
 cellsByte := by kernel_rfl
 sizeByte := by kernel_rfl
 neB5 := by decide }
open Go.RowKit Go.Lib in
theorem Tryz.strings_Repeat (s : ByteArray) (c : Nat) (w : World) (hc : c ≤ 9223372036854775807) (hlen : s.size * c ≤ 140737488355328) :
  Calls Tryz.prog 200 #[.string s, .int .i64 c] w fun e w' => e = .returned (.string ⟨(Lib.repeatL s.data.toList c).toArray⟩) ∧ Below w.heap.size w w' := Any.strings_Repeat Tryz.lays105 Tryz.Builder_Extra_105 s c w hc hlen
def Tryz.lays107_ren : Go.Shelf.Ren := ⟨fun | 107 => 221 | 108 => 279 | n => n, fun | 28 => 76 | 3 => 3 | 4 => 4 | 0 => 0 | n => n, fun | n => n⟩
theorem Tryz.lays107 : Go.Proofs.Lays.n107 Tryz.prog Tryz.lays107_ren := {
 mixed := by kernel_rfl
 f107 := Tryz.func221.trans (congrArg some (by kernel_rfl))
 f108 := Tryz.func279.trans (congrArg some (by kernel_rfl))
 t0 := Tryz.underlying0
 a0 := Tryz.isAgg0
 z0 := Tryz.sizeOf0
 v0 := Tryz.zeroValue0
 t3 := Tryz.underlying3
 a3 := Tryz.isAgg3
 z3 := Tryz.sizeOf3
 v3 := Tryz.zeroValue3
 t4 := Tryz.underlying4
 a4 := Tryz.isAgg4
 z4 := Tryz.sizeOf4
 v4 := Tryz.zeroValue4
 t28 := Tryz.underlying76
 a28 := Tryz.isAgg76
 z28 := Tryz.sizeOf76
 v28 := Tryz.zeroValue76 }
open Go.Lib in
theorem Tryz.slices_Contains_int (b off n c : Nat) (zs : List Int) (x : Int) (w : World) (hz : n ≤ zs.length) (hbig : n ≤ 9223372036854775807) (hc : ∀ j, j < zs.length → w.cell? ⟨b, off + j, none⟩ = some (.int .i64 (zs.getD j 0))) :
  Calls Tryz.prog 221 #[.slice (some ⟨b, off, none⟩) n c, .int .i64 x] w fun e w' => e = .returned (.bool ((zs.take n).contains x)) ∧ w' = w := Any.slices_Contains_int Tryz.lays107 b off n c zs x w hz hbig hc
open Go.Lib in
theorem Tryz.slices_Contains_int_empty (a : Option Addr) (c : Nat) (x : Int) (w : World) :
  Calls Tryz.prog 221 #[.slice a 0 c, .int .i64 x] w fun e w' => e = .returned (.bool false) ∧ w' = w := Any.slices_Contains_int_empty Tryz.lays107 a c x w
def Tryz.lays110_ren : Go.Shelf.Ren := ⟨fun | 110 => 63 | 109 => 129 | n => n, fun | 31 => 136 | 9 => 9 | 4 => 4 | 3 => 3 | 0 => 0 | n => n, fun | n => n⟩
theorem Tryz.lays110 : Go.Proofs.Lays.n110 Tryz.prog Tryz.lays110_ren := {
 mixed := by kernel_rfl
 f109 := Tryz.func129.trans (congrArg some (by kernel_rfl))
 f110 := Tryz.func63.trans (congrArg some (by kernel_rfl))
 t0 := Tryz.underlying0
 a0 := Tryz.isAgg0
 z0 := Tryz.sizeOf0
 v0 := Tryz.zeroValue0
 t3 := Tryz.underlying3
 a3 := Tryz.isAgg3
 z3 := Tryz.sizeOf3
 v3 := Tryz.zeroValue3
 t4 := Tryz.underlying4
 a4 := Tryz.isAgg4
 z4 := Tryz.sizeOf4
 v4 := Tryz.zeroValue4
 t9 := Tryz.underlying9
 a9 := Tryz.isAgg9
 z9 := Tryz.sizeOf9
 v9 := Tryz.zeroValue9
 t31 := Tryz.underlying136
 a31 := Tryz.isAgg136
 z31 := Tryz.sizeOf136
 v31 := Tryz.zeroValue136 }
open Go.Lib in
theorem Tryz.slices_Contains_string_empty (a : Option Addr) (c : Nat) (x : ByteArray) (w : World) :
  Calls Tryz.prog 63 #[.slice a 0 c, .string x] w fun e w' => e = .returned (.bool false) ∧ w' = w := Any.slices_Contains_string_empty Tryz.lays110 a c x w
def Tryz.lays111_ren : Go.Shelf.Ren := ⟨fun | 111 => 213 | n => n, fun | 28 => 76 | 3 => 3 | 4 => 4 | 0 => 0 | n => n, fun | n => n⟩
theorem Tryz.lays111 : Go.Proofs.Lays.n111 Tryz.prog Tryz.lays111_ren := {
 mixed := by kernel_rfl
 f111 := Tryz.func213.trans (congrArg some (by kernel_rfl))
 t0 := Tryz.underlying0
 a0 := Tryz.isAgg0
 z0 := Tryz.sizeOf0
 v0 := Tryz.zeroValue0
 t3 := Tryz.underlying3
 a3 := Tryz.isAgg3
 z3 := Tryz.sizeOf3
 v3 := Tryz.zeroValue3
 t4 := Tryz.underlying4
 a4 := Tryz.isAgg4
 z4 := Tryz.sizeOf4
 v4 := Tryz.zeroValue4
 t28 := Tryz.underlying76
 a28 := Tryz.isAgg76
 z28 := Tryz.sizeOf76
 v28 := Tryz.zeroValue76 }
open Go.RowKit Go.Lib in
theorem Tryz.slices_Equal_int (b1 o1 n c b2 o2 m d : Nat) (xs ys : List Int) (w : World) (hx : n ≤ xs.length) (hy : m ≤ ys.length) (hbig : n ≤ 9223372036854775807) (hbig2 : m ≤ 9223372036854775807) (hc1 : ∀ j, j < xs.length → w.cell? ⟨b1, o1 + j, none⟩ = some (.int .i64 (xs.getD j 0))) (hc2 : ∀ j, j < ys.length → w.cell? ⟨b2, o2 + j, none⟩ = some (.int .i64 (ys.getD j 0))) :
  Calls Tryz.prog 213 #[.slice (some ⟨b1, o1, none⟩) n c, .slice (some ⟨b2, o2, none⟩) m d] w fun e w' => e = .returned (.bool (xs.take n == ys.take m)) ∧ ∃ q, w' = w.drewN q := Any.slices_Equal_int Tryz.lays111 b1 o1 n c b2 o2 m d xs ys w hx hy hbig hbig2 hc1 hc2
open Go.RowKit Go.Lib in
theorem Tryz.slices_Equal_int_empty (a1 a2 : Option Addr) (c m d : Nat) (w : World) (hbig2 : m ≤ 9223372036854775807) :
  Calls Tryz.prog 213 #[.slice a1 0 c, .slice a2 m d] w fun e w' => e = .returned (.bool (decide (m = 0))) ∧ w' = w := Any.slices_Equal_int_empty Tryz.lays111 a1 a2 c m d w hbig2
def Tryz.laysNm215_ren : Go.Shelf.Ren := ⟨fun | 15 => 124 | n => n, fun | 22 => 76 | 3 => 3 | 4 => 4 | n => n, fun | n => n⟩
theorem Tryz.laysNm215 : Go.Proofs.Lays2.n15 Tryz.prog Tryz.laysNm215_ren := {
 mixed := by kernel_rfl
 f15 := Tryz.func124.trans (congrArg some (by kernel_rfl))
 t3 := Tryz.underlying3
 a3 := Tryz.isAgg3
 z3 := Tryz.sizeOf3
 v3 := Tryz.zeroValue3
 t4 := Tryz.underlying4
 a4 := Tryz.isAgg4
 z4 := Tryz.sizeOf4
 v4 := Tryz.zeroValue4
 t22 := Tryz.underlying76
 a22 := Tryz.isAgg76
 z22 := Tryz.sizeOf76
 v22 := Tryz.zeroValue76
 i3 := by kernel_rfl }
open Go.RowKit Go.Lib in
theorem Tryz.slices_Clone_int_nil (n c : Nat) (w : World) :
  Calls Tryz.prog 124 #[.slice none n c] w fun e w' => e = .returned (.slice none 0 0) ∧ w' = w := Any.slices_Clone_int_nil Tryz.laysNm215 n c w
def Tryz.lays194_ren : Go.Shelf.Ren := ⟨fun | 194 => 128 | n => n, fun | 31 => 136 | 9 => 9 | 3 => 3 | 4 => 4 | 0 => 0 | n => n, fun | n => n⟩
theorem Tryz.lays194 : Go.Proofs.Lays.n194 Tryz.prog Tryz.lays194_ren := {
 mixed := by kernel_rfl
 f194 := Tryz.func128.trans (congrArg some (by kernel_rfl))
 t0 := Tryz.underlying0
 a0 := Tryz.isAgg0
 z0 := Tryz.sizeOf0
 v0 := Tryz.zeroValue0
 t3 := Tryz.underlying3
 a3 := Tryz.isAgg3
 z3 := Tryz.sizeOf3
 v3 := Tryz.zeroValue3
 t4 := Tryz.underlying4
 a4 := Tryz.isAgg4
 z4 := Tryz.sizeOf4
 v4 := Tryz.zeroValue4
 t9 := Tryz.underlying9
 a9 := Tryz.isAgg9
 z9 := Tryz.sizeOf9
 v9 := Tryz.zeroValue9
 t31 := Tryz.underlying136
 a31 := Tryz.isAgg136
 z31 := Tryz.sizeOf136
 v31 := Tryz.zeroValue136 }
open Go.RowKit Go.Lib Go.Sort in
theorem Tryz.slices_Compact_string_empty (a : Option Addr) (cap : Nat) (w : World) :
  Calls Tryz.prog 128 #[.slice a 0 cap] w fun e w' => e = .returned (.slice a 0 cap) ∧ w' = w := Any.slices_Compact_string_empty Tryz.lays194 a cap w
open Go.RowKit Go.Sort in
theorem Tryz.slices_Sort_string_none (p : Option Addr) (cap : Nat) (w : World) :
  Calls Tryz.prog 127 #[.slice p 0 cap] w fun e w' => e = .returned (.tuple #[]) ∧ w' = w := Any.slices_Sort_string_none Tryz.lays190 p cap w
open Go.RowKit Go.Lib in
theorem Tryz.slices_Equal_int_lens (a1 a2 : Option Addr) (n c m d : Nat) (w : World) (hnm : n ≠ m) :
  Calls Tryz.prog 213 #[.slice a1 n c, .slice a2 m d] w fun e w' => e = .returned (.bool false) ∧ w' = w := Any.slices_Equal_int_lens Tryz.lays111 a1 a2 n c m d w hnm
end Go.Proofs
namespace Go.Proofs.YtcbicpbbjbkiaaaGreatDoor
open Go.RowKit Go.Sort

def Rw (w : World) (l : List Int) (e : Ending) (w' : World) : Prop := ∃ v d, e = .returned v ∧ w' = bw w d ∧ Ow (bw w d) w.heap.size v l
theorem bw_drewN (w : World) (q : Nat) : ∃ d, w.drewN q = bw w d := ⟨⟨#[], w.drawn + q⟩, by
 show w.drewN q = { w with heap := w.heap ++ #[], drawn := w.drawn + q }
 rw [Array.append_empty]; rfl⟩
theorem sl_Contains (v : Value) (l : List Int) (x : Int) (w : World) (h : Sl w v l) :
  Calls Tryz.prog 221 #[v, .int .i64 x] w fun e w' => e = .returned (.bool (l.contains x)) ∧ w' = w := by
 by_cases hl : l = []
 ·subst hl
  obtain ⟨a, cap, rfl, -⟩ := h
  exact (Tryz.slices_Contains_int_empty a cap x w).mono fun e w' ⟨h1, h2⟩ => ⟨h1, h2⟩
 ·obtain ⟨b, o, cap, rfl, hc, _, _, hr⟩ := h.open (List.length_pos_iff.2 hl)
  have := Tryz.slices_Contains_int b o l.length cap l x w (Nat.le_refl _) (by omega) hr
  rw [List.take_length] at this
  exact this
theorem sl_Equal (v1 v2 : Value) (l1 l2 : List Int) (w : World) (h1 : Sl w v1 l1) (h2 : Sl w v2 l2) :
  Calls Tryz.prog 213 #[v1, v2] w fun e w' => e = .returned (.bool (decide (l1 = l2))) ∧ ∃ d, w' = bw w d := by
 have hn : ∃ d, w = bw w d := lay_ex w []
 by_cases hl : l1 = []
 ·subst hl
  obtain ⟨a, cap, rfl, -⟩ := h1
  obtain ⟨a2, cap2, rfl, hc2, -⟩ := h2
  refine (Tryz.slices_Equal_int_empty a a2 cap l2.length cap2 w (by omega)).mono fun e w' ⟨h1, h2⟩ => ⟨?_, by rw [h2]; exact hn⟩
  rw [h1]
  refine ret_bool ?_
  rw [Bool.eq_iff_iff]; simp only [decide_eq_true_eq]
  constructor
  ·intro h; exact (List.eq_nil_of_length_eq_zero h).symm
  ·intro h; rw [← h]; rfl
 ·by_cases hlen : l1.length = l2.length
  ·have h0 : 0 < l1.length := List.length_pos_iff.2 hl
   obtain ⟨b, o, cap, rfl, hc, _, _, hr⟩ := h1.open h0
   obtain ⟨b2, o2, cap2, rfl, hc2, _, _, hr2⟩ := h2.open (by omega)
   have := Tryz.slices_Equal_int b o l1.length cap b2 o2 l2.length cap2 l1 l2 w (Nat.le_refl _) (Nat.le_refl _) (by omega) (by omega) hr hr2
   rw [List.take_length, List.take_length] at this
   refine this.mono fun e w' ⟨h1, q, h2⟩ => ⟨?_, by rw [h2]; exact bw_drewN w q⟩
   rw [h1]
   exact ret_bool (by rw [Bool.eq_iff_iff]; simp)
  ·obtain ⟨a, cap, rfl, hc, -⟩ := h1
   obtain ⟨a2, cap2, rfl, hc2, -⟩ := h2
   refine (Tryz.slices_Equal_int_lens a a2 l1.length cap l2.length cap2 w hlen).mono fun e w' ⟨h1, h2⟩ => ⟨?_, by rw [h2]; exact hn⟩
   rw [h1]
   exact ret_bool (by rw [Bool.eq_iff_iff]; simp; intro h; exact absurd (by rw [h]) hlen)
end Go.Proofs.YtcbicpbbjbkiaaaGreatDoor
namespace Go.Proofs.YtcbicpbbjbkiaaaGreatDoor
open Go.RowKit

theorem lit_bdE {n : Int} (h : -300000000000 ≤ n ∧ n ≤ 300000000000) : (Lit.int .i64 n).wf = true := by
 simp [Lit.wf, IntKind.min, IntKind.max, IntKind.bits, IntKind.signed]; omega
def lenV : Value → Nat
 | .slice _ n _ => n
 | _ => 0
structure EndI (l : List Int) (T : Nat) (dn : List Int) (r : List Int) : Prop where
 le : r.length ≤ T
 eq : dn ++ endsF r.length T r = endL l
 bd : dn.length + r.length ≤ T + 1
theorem EndI.start (l : List Int) : EndI l l.length [0] l := ⟨Nat.le_refl _, rfl, by simp; omega⟩
theorem EndI.done {l : List Int} {T : Nat} {dn r : List Int} (h : EndI l T dn r) (hr : recF r = none) : dn = endL l := by
 have := h.eq
 rwa [endsF_none hr, List.append_nil] at this
theorem EndI.next {l : List Int} {T : Nat} {dn r x t : List Int} (h : EndI l T dn r) (hr : recF r = some (x, t)) : EndI l T (dn ++ [(T : Int) - t.length]) t ∧ t.length < r.length := by
 obtain ⟨k1, -, -⟩ := recF_len hr
 have h1 := h.le
 have h2 := h.bd
 have h3 := h.eq
 have e : endsF r.length T r = ((T : Int) - t.length) :: endsF t.length T t := by
  obtain ⟨q, hq⟩ : ∃ q, r.length = q + 1 := ⟨r.length - 1, by omega⟩
  rw [hq, endsF_some hr, endsF_fuel q T t (by omega) t.length (Nat.le_refl _)]
 refine ⟨⟨by omega, ?_, by simp; omega⟩, by omega⟩
 rw [List.append_assoc, ← h3, e]
 rfl
set_option maxHeartbeats 2000000 in
set_option maxRecDepth 100000 in
theorem jn_ends (v : Value) (l : List Int) (w : World) (hv : SlG bR w v l) (HBK : ∀ k, v.ownBlock = some k → k < w.heap.size) (hl : l.length ≤ 10000000) :
  Calls Tryz.prog 222 #[v] w (Rw w (endL l)) := by
 obtain ⟨a, c, rfl⟩ := hv.form
 have HV := Lib.hid hv
 have hbk : ∀ k, (Value.slice a l.length c).ownBlock = some k → k < w.heap.size := HBK
 have HS := Lib.hid (EndI.start l)
 obtain ⟨T, hT⟩ : ∃ T, l.length = T := ⟨_, rfl⟩
 rw [hT] at HS hl ⊢
 have HT := Lib.hid hT
 rw [hT] at hv hbk
 have HV0 := Lib.hid hv
 have HBk := Lib.hid hbk
 clear hv hT hbk HBK
 refine lay_start ?_
 go_enter Tryz.func222, Tryz.ntmps222
 go_wp2_with fail
 go_loopw [3, 4] (fun v3 v4 wr => ∃ (dn r : List Int) (dd : Ext) (x3 x4 : Value), x3 = v3 ∧ x4 = v4 ∧ wr = lay w [.inr dd] ∧ EndI l T dn r ∧ Ow wr w.heap.size x3 dn ∧ SlG bR w x4 r ∧ ∀ k, x4.ownBlock = some k → k < w.heap.size) (fun _ v4 _ => lenV v4)
 case atStart =>
  obtain ⟨dd, hd⟩ := lay_all w [.inl (.cells #[.int .i64 0] 3)]
  refine ⟨[0], l, dd, _, _, rfl, rfl, hd, HS.out, ?_, HV0.out, HBk.out⟩
  ·refine ⟨World.ownsRow_lit (lay w []) #[.int .i64 0] 1 (Nat.le_refl _) (by decide) rfl, fun i hi => ?_⟩
   obtain rfl : i = 0 := by simpa using hi
   decide
 case round =>
  obtain ⟨dn, r, dd, x3, x4, rfl, rfl, rfl, hE, hO, hS, hB⟩ := hrel
  have HE := Lib.hid hE
  have HO := Lib.hid hO
  have HBr := Lib.hid hB
  have hr := jn_record x4 r _ (hS.lay [.inr dd]) (by have := hE.le; omega)
  obtain ⟨a4, c4, rfl⟩ := hS.form
  obtain ⟨a3, c3, rfl⟩ := hO.form
  have HR := Lib.hid hr
  have hrT := hE.le
  clear hr hE hO hS hB
  go_wp2_with fail
  refine HR.out.mono ?_
  rintro e w' ⟨hP, d5, rfl⟩
  rw [lay_bw]
  rcases hP with ⟨hn, rfl⟩ | ⟨x, t, vr, vt, hn, hvr, hvt, -, hvb, -, -, rfl⟩
  ·have HDn := Lib.hid (HE.out.done hn)
   clear hn
   go_wp2_with fail
   exact bodyPost_ret (v := .slice a3 dn.length c3) (by simp [results, Tryz.results222, go_sem]) rfl ⟨_, _, rfl, (lay_ex w _).choose_spec, by rw [← (lay_ex w _).choose_spec, ← HDn.out]; exact ow_on (A := [.inr d5]) HO.out⟩
  ·obtain ⟨hE2, hlt⟩ := HE.out.next hn
   have HE2 := Lib.hid hE2
   have HLt := Lib.hid hlt
   have HVb : Hid (∀ k, vt.ownBlock = some k → k < w.heap.size) := Lib.hid (fun k hk => HBr.out k (hvb k hk))
   have HVt := Lib.hid (slG_down hvt HVb.out)
   obtain ⟨ar, cr, rfl⟩ := hvr.form
   obtain ⟨at_, ct, rfl⟩ := hvt.form
   have k1 : wrap64 ((T : Int) - t.length) = T - t.length := by unfold wrap64; omega
   have HW : Hid ((Lit.int .i64 ((T : Int) - t.length)).wf = true) := Lib.hid (lit_bdE (by omega))
   have HBd : Hid (dn.length ≤ 1000000000) := Lib.hid (by have := HE.out.bd; omega)
   clear hn hE2 hlt hvr hvt hvb
   go_wp2_with (at_builtin; refine push_int rfl _ _ rfl w _ ((T : Int) - t.length) 3 _ _ dn (lay_extends w _) (ow_on (A := [.inl _, .inr d5]) HO.out) (lay_get w _ 0 _ rfl) rfl rfl HBd.out HW.out ?_; intro v' d' hv'; rw [show Go.Proofs.YtcbicpbbjbkiaaaGreatDoor.bw w d' = lay w [.inr d'] from rfl] at hv' ⊢)
   go_roundw
   case rel => exact ⟨_, t, d', _, _, rfl, rfl, rfl, HE2.out, hv', HVt.out, HVb.out⟩
   case measure => exact HLt.out
end Go.Proofs.YtcbicpbbjbkiaaaGreatDoor
namespace Go.Proofs.YtcbicpbbjbkiaaaGreatDoor
set_option maxHeartbeats 4000000
open Go.RowKit

theorem owG_swap {α : Type} {R : RecT α} {W1 W2 : World} {d : Ext} {B : Nat} {v : Value} {l : List α} (h : OwG R (bw W1 d) B v l) (hB : W1.heap.size ≤ B) (hs : W1.heap.size = W2.heap.size) : OwG R (bw W2 d) B v l := by
 refine ⟨⟨h.1.1, h.1.2.imp id ?_⟩, h.2⟩
 rintro ⟨g, cap, cur, e, h1, h2, h3⟩
 refine ⟨g, cap, cur, e, h1, ?_, h3⟩
 rw [← h2]
 show (W2.heap ++ d.blocks)[g]? = (W1.heap ++ d.blocks)[g]?
 rw [Array.getElem?_append_right (by omega), Array.getElem?_append_right (by omega), hs]
def Old (w : World) (v : Value) : Prop := ∀ k, v.ownBlock = some k → k < w.heap.size
theorem Old.lay {w : World} {v : Value} (h : Old w v) (L : List (Obj ⊕ Ext)) : Old (lay w L) v := fun k hk => Nat.lt_of_lt_of_le (h k hk) (lay_extends w L).size
def dskB (l : List Int) (sy af : Int) : Bool := decide (l.length ≤ 1048576) && decide (-1 ≤ af) && decide (af ≤ 1048576) && (endL l).contains sy
set_option maxRecDepth 100000 in
theorem jn_Valid (v : Value) (l : List Int) (sy af : Int) (w : World) (hv : SlG bR w v l) (ho : Old w v) :
  Calls Tryz.prog 140 #[.agg #[v, .int .i64 sy, .int .i64 af]] w fun e w' => e = .returned (.bool (dskB l sy af)) ∧ ∃ d, w' = bw w d := by
 obtain ⟨a, c, rfl⟩ := hv.form
 by_cases hA : l.length ≤ 1048576 ∧ -1 ≤ af ∧ af ≤ 1048576
 ·obtain ⟨h1, h2, h3⟩ := hA
  have HE := Lib.hid (fun L => jn_ends _ l (lay w L) (hv.lay L) (ho.lay L) (by omega))
  have hd : dskB l sy af = (endL l).contains sy := by unfold dskB; rw [decide_eq_true h1, decide_eq_true h2, decide_eq_true h3]; simp
  rw [hd]
  obtain ⟨E, hE⟩ : ∃ E, endL l = E := ⟨_, rfl⟩
  rw [hE] at HE ⊢
  obtain ⟨m, hm⟩ : ∃ m, l.length = m := ⟨_, rfl⟩
  rw [hm] at h1 HE ⊢
  have g1 : decide ((m : Int) ≤ 1048576) = true := decide_eq_true (by omega)
  have g2 : decide ((-1 : Int) ≤ af) = true := decide_eq_true h2
  have g3 : decide (af ≤ (1048576 : Int)) = true := decide_eq_true h3
  clear hv ho hd hE hm h1 h2 h3
  refine lay_start ?_
  go_enter Tryz.func140, Tryz.ntmps140
  go_wp2_with fail
  refine region_mixP [(0, 0), (1, 0), (2, 0), (3, 0), (4, 0), (5, 0), (6, 0), (7, 0), (8, 0), (9, 0), (10, 0), (11, 0), (12, 0), (13, 0), (14, 0), (15, 0), (16, 0), (18, 0), (19, 0), (17, 1)] (by kernel_rfl) (by kernel_rfl) (by kernel_rfl) (by kernel_rfl) (by simp) (by kernel_rfl) ?_
  simp only [List.drop_succ_cons, List.drop_zero, List.length_cons, List.length_nil, Nat.reduceAdd]
  iterate 19 (refine wpMP_quiet rfl (fun K hK => ?_); go_simp; refine hK _ ?_; clear hK K)
  refine wpMP_special rfl (fun K hK e1 => ?_)
  go_simp
  refine (HE.out [_, _]).mono ?_
  rintro e w' ⟨v1, f1, rfl, rfl, hO⟩
  rw [lay_bw] at hO
  obtain ⟨va, vc, rfl⟩ := hO.form
  have H1 := Lib.hid hO.sl
  clear hO
  refine ⟨_, rfl, ?_⟩
  go_simp
  refine hK _ _ (lay_in w [_, _] _) ?_
  clear hK K
  refine wpMP_nil (fun e2 => ?_)
  rw [lay_bw]
  go_wp2_with fail
  refine (sl_Contains _ E sy _ (sl_on (A := [_]) H1.out)).mono ?_
  rintro e w' ⟨rfl, rfl⟩
  go_wp2_with fail
  exact bodyPost_ret (v := .bool (E.contains sy)) (by simp [results, Tryz.results140, go_sem]) rfl ⟨rfl, lay_ex _ _⟩
 ·have hd : dskB l sy af = false := by
   unfold dskB
   rw [Bool.eq_false_iff]
   intro h
   simp only [Bool.and_eq_true, decide_eq_true_eq] at h
   exact hA ⟨h.1.1.1, h.1.1.2, h.1.2⟩
  rw [hd]
  have hor : (¬ l.length ≤ 1048576) ∨ (l.length ≤ 1048576 ∧ ¬ -1 ≤ af) ∨ (l.length ≤ 1048576 ∧ -1 ≤ af ∧ ¬ af ≤ 1048576) := by omega
  obtain ⟨m, hm⟩ : ∃ m, l.length = m := ⟨_, rfl⟩
  rw [hm] at hor ⊢
  clear hv ho hd hA hm
  rcases hor with h1 | ⟨h1, h2⟩ | ⟨h1, h2, h3⟩
  ·have g1 : decide ((m : Int) ≤ 1048576) = false := decide_eq_false (by omega)
   refine lay_start ?_
   go_enter Tryz.func140, Tryz.ntmps140
   go_wp2_with fail
   refine region_bw (by kernel_rfl) (by kernel_rfl) ?_
   repeat (go_big_quiet_step ((first | fail)))
   refine wpQuiet_nil ?_
   rintro w' ⟨d, rfl⟩
   rw [lay_bw]
   go_wp2_with fail
   exact bodyPost_ret (v := .bool false) (by simp [results, Tryz.results140, go_sem]) rfl ⟨rfl, lay_ex _ _⟩
  ·have g1 : decide ((m : Int) ≤ 1048576) = true := decide_eq_true (by omega)
   have g2 : decide ((-1 : Int) ≤ af) = false := decide_eq_false h2
   refine lay_start ?_
   go_enter Tryz.func140, Tryz.ntmps140
   go_wp2_with fail
   refine region_bw (by kernel_rfl) (by kernel_rfl) ?_
   repeat (go_big_quiet_step ((first | fail)))
   refine wpQuiet_nil ?_
   rintro w' ⟨d, rfl⟩
   rw [lay_bw]
   go_wp2_with fail
   exact bodyPost_ret (v := .bool false) (by simp [results, Tryz.results140, go_sem]) rfl ⟨rfl, lay_ex _ _⟩
  ·have g1 : decide ((m : Int) ≤ 1048576) = true := decide_eq_true (by omega)
   have g2 : decide ((-1 : Int) ≤ af) = true := decide_eq_true h2
   have g3 : decide (af ≤ (1048576 : Int)) = false := decide_eq_false h3
   refine lay_start ?_
   go_enter Tryz.func140, Tryz.ntmps140
   go_wp2_with fail
   refine region_bw (by kernel_rfl) (by kernel_rfl) ?_
   repeat (go_big_quiet_step ((first | fail)))
   refine wpQuiet_nil ?_
   rintro w' ⟨d, rfl⟩
   rw [lay_bw]
   go_wp2_with fail
   exact bodyPost_ret (v := .bool false) (by simp [results, Tryz.results140, go_sem]) rfl ⟨rfl, lay_ex _ _⟩
theorem jn_copied (v : Value) (l : List Int) (sy af : Int) (w : World) (hv : SlG bR w v l) (hn : l.length ≤ 1000000000) :
  Calls Tryz.prog 146 #[.agg #[v, .int .i64 sy, .int .i64 af]] w fun e w' => ∃ v' d, e = .returned (.agg #[v', .int .i64 sy, .int .i64 af]) ∧ w' = bw w d ∧ OwG bR (bw w d) w.heap.size v' l := by
 obtain ⟨a, c, rfl⟩ := hv.form
 have HC := Lib.hid (fun L => cln_Byte _ l (lay w L) (hv.lay L) hn)
 generalize l.length = m at *
 refine lay_start ?_
 go_enter Tryz.func146, Tryz.ntmps146
 go_wp2_with fail
 refine (HC.out _).mono ?_
 rintro e w' ⟨v1, d1, rfl, rfl, h1⟩
 rw [lay_bw] at h1 ⊢
 obtain ⟨va, vc, hve⟩ := h1.form
 have H1 := Lib.hid h1
 generalize l.length = q at *
 subst hve
 clear h1
 go_wp2_with fail
 obtain ⟨dz, hz⟩ := lay_ex w [.inr d1, .inl (.cells #[.slice va q vc, .int .i64 sy, .int .i64 af] 70), .inl (.cells #[.slice va q vc, .int .i64 sy, .int .i64 af] 70)]
 exact bodyPost_ret (v := .agg #[.slice va q vc, .int .i64 sy, .int .i64 af]) (by simp [results, Tryz.results146, go_sem]) rfl ⟨_, dz, rfl, hz, by rw [← hz]; exact (owG_swap (W2 := lay w [.inl (.cells #[.slice va q vc, .int .i64 sy, .int .i64 af] 70), .inl (.cells #[.slice va q vc, .int .i64 sy, .int .i64 af] 70)]) H1.out (Nat.le_refl _) (by rw [lay_size, lay_size]; rfl)).le (by simp [go_sem])⟩
end Go.Proofs.YtcbicpbbjbkiaaaGreatDoor
