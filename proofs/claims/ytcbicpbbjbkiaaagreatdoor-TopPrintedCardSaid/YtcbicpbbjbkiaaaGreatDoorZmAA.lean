/- Contracts and plain laws, several texts in one: Infra; Lay; Frame; Region; Mix; Row; Plain; Pg1; Sta1; By0; JnA; JnB -/
import Derived.Deep.Quiet
import Derived.Deep.QuietTactic
import Derived.StillTail
import Derived.Below
import Derived.Laws.NewBlocks
import Derived.Attr
import Derived.OwnWalk
import Derived.Test.YtcbicpbbjbkiaaaGreatDoorRows
import Derived.WalkKit
import Derived.ProofKit
import Derived.Lib.SmallJoins
import Derived.OpenShut
import Derived.Test.YtcbicpbbjbkiaaaGreatDoorProg
import Derived.WalkSpells
import Derived.WalkLawsBesides
import Derived.Lib.Hide
import Derived.BigQuiet
import Derived.Deep.Slices
import Derived.Deep.AppendLies
import Derived.Maps.AppendAt
import Derived.Laws.AppendOwnNone
import Derived.Laws.OwnMore
import Derived.WideShapes
import Derived.Shelf.Abstract
import Derived.Laws.BitsAllLaws
namespace Go.Proofs.YtcbicpbbjbkiaaaGreatDoor
open Go.RowKit

structure Ext where
 blocks : Array Obj
 drawn : Nat
instance : Nonempty Ext := ⟨⟨#[], 0⟩⟩
def bw (w : World) (d : Ext) : World := { w with heap := w.heap ++ d.blocks, drawn := d.drawn }

theorem bw_of {w w' : World} (h : Below w.heap.size w w') : ∃ d, w' = bw w d := by
 refine ⟨⟨w'.heap.extract w.heap.size w'.heap.size, w'.drawn⟩, ?_⟩
 obtain ⟨heap, tape, drawn, os, output⟩ := w'
 obtain ⟨h1, h2, h3, h4, h5⟩ := h
 simp only at h1 h2 h3 h4 h5
 subst h1 h2 h3
 simp only [bw]
 congr 1
 apply Array.ext_getElem?
 intro i
 rw [Array.getElem?_append]
 split
 ·rename_i hi; rw [← h5 i hi]
 ·rename_i hi
  simp only [Array.getElem?_extract]
  by_cases hh : i < heap.size
  ·rw [if_pos (by omega)]; congr 1; omega
  ·rw [if_neg (by omega)]; exact Array.getElem?_eq_none (by omega)
theorem bw_le (w : World) (d : Ext) : w.heap.size ≤ (bw w d).heap.size := by simp [bw]
theorem bw_get (w : World) (d : Ext) (k : Nat) (h : k < w.heap.size) : (bw w d).heap[k]? = w.heap[k]? := by simp only [bw, Array.getElem?_append, h, if_true]
theorem bw_below (w : World) (d : Ext) : Below w.heap.size w (bw w d) := ⟨rfl, rfl, rfl, bw_le w d, fun k hk => bw_get w d k hk⟩

@[go_sem] theorem bw_cell (w : World) (d : Ext) (b i : Nat) (h : b < w.heap.size) : (bw w d).cell? ⟨b, i, none⟩ = w.cell? ⟨b, i, none⟩ := (bw_below w d).cell (p := ⟨b, i, none⟩) h
@[go_sem] theorem bw_frozen (w : World) (d : Ext) (b i : Nat) (h : b < w.heap.size) : (bw w d).frozen? ⟨b, i, none⟩ = w.frozen? ⟨b, i, none⟩ := (bw_below w d).frozen (p := ⟨b, i, none⟩) h
@[go_sem] theorem bw_shape (w : World) (d : Ext) (r : Nat) (h : r < w.heap.size) : (bw w d).shape? r = w.shape? r := by
 unfold World.shape?; rw [(bw_below w d).block r h]
@[go_sem] theorem bw_block (w : World) (d : Ext) (r : Nat) (h : r < w.heap.size) : (bw w d).heap[r]? = w.heap[r]? := (bw_below w d).block r h
@[go_sem] theorem lt_bw (w : World) (d : Ext) (b : Nat) (h : b < w.heap.size) : (b < (bw w d).heap.size) = True := eq_true (Nat.lt_of_lt_of_le h (bw_le w d))
@[go_sem] theorem le_bw_s (w : World) (d : Ext) (b : Nat) (h : b ≤ w.heap.size) : (b ≤ (bw w d).heap.size) = True := eq_true (Nat.le_trans h (bw_le w d))
@[go_sem] theorem le_bw_t (w : World) (d : Ext) (b : Nat) (h : b < w.heap.size) : (b ≤ (bw w d).heap.size) = True := eq_true (Nat.le_trans (Nat.le_of_lt h) (bw_le w d))
@[go_sem] theorem le_plus (n b k : Nat) (h : b ≤ n) : (b ≤ n + k) = True := eq_true (by omega)
@[go_sem] theorem lt_plus (n b k : Nat) (h : b < n) : (b < n + k) = True := eq_true (by omega)

@[go_sem] theorem bw_setCell (w : World) (d : Ext) (b i : Nat) (v : Value) (h : b < w.heap.size) : (bw w d).setCell ⟨b, i, none⟩ v = bw (w.setCell ⟨b, i, none⟩ v) d := by
 simp only [bw, World.setCell]
 congr 1
 apply Array.ext_getElem?
 intro k
 simp only [Array.getElem?_modify, Array.getElem?_append, Array.size_modify]
 by_cases hk : b = k
 ·subst hk; simp [h]
 ·simp [hk]
@[go_sem] theorem bw_drew (w : World) (d : Ext) : (bw w d).drew = bw w ⟨d.blocks, d.drawn + 1⟩ := rfl
@[go_sem] theorem bw_bw (w : World) (d e : Ext) : bw (bw w d) e = bw w ⟨d.blocks ++ e.blocks, e.drawn⟩ := by simp [bw, Array.append_assoc]
theorem bw_drewExt (w : World) : w.drew = bw w ⟨#[], w.drawn + 1⟩ := by
 show ({ w with drawn := w.drawn + 1 } : World) = { w with heap := w.heap ++ #[], drawn := w.drawn + 1 }
 rw [Array.append_empty]

theorem ret_int {k : IntKind} {a b : Int} (h : a = b) : Ending.returned (.int k a) = .returned (.int k b) := by rw [h]
theorem ret_bool {a b : Bool} (h : a = b) : Ending.returned (.bool a) = .returned (.bool b) := by rw [h]
theorem below_bw {B : Nat} {a w : World} {d : Ext} (h : Below B a w) (hB : B ≤ w.heap.size) : Below B a (bw w d) := h.trans ((bw_below w d).mono hB)

section
variable {P : Program} {ops : Array Oper} {md : Region.Mode} {C : World → Prop}

theorem region_bw {id : Nat} {Q : Exit → Act → World → Prop} {a : Act} {w : World} {l : List Oper} (hm : P.follows .mixedOrders = true) (hB : Region.lexB .any l.toArray = true)
  (h : wpQuiet P l.toArray (fun w' => ∃ d, w' = bw w d) (fun a' => ∀ w', (∃ d, w' = bw w d) → Q .normal a' w') l a) : (Code.region id l.toArray true).wp P Q a w :=
 wp_region_quiet (C := fun w' => ∃ d, w' = bw w d) hm hB ⟨_, bw_drewExt w⟩ (by simpa using h)

def headAny (P : Program) (md : Region.Mode) (ops : Array Oper) (C : World → Prop) (n : Nat) (L : Array Bool → Act → Prop) : Nat → Array Bool → Act → Prop
 | 0, listed, a => L listed a
 | f + 1, listed, a => Region.ready md ops listed ≠ [] ∧ ∀ i ∈ Region.ready md ops listed, i < n ∧ qOp P ops C i (headAny P md ops C n L f (listed.setIfInBounds i true)) a

theorem any_of_head {n g : Nat} {L : Array Bool → Act → Prop} {Q' : Exit → Act → World → Prop} (hL : ∀ listed a w, C w → L listed a → wpAny P md ops Q' g listed a w) :
  ∀ (f : Nat) (listed : Array Bool) (a : Act) (w : World), C w → headAny P md ops C n L f listed a → wpAny P md ops Q' (f + g) listed a w
 | 0, listed, a, w, hw, h => by rw [Nat.zero_add]; exact hL _ _ _ hw h
 | f + 1, listed, a, w, hw, h => by
  rw [show f + 1 + g = (f + g) + 1 by omega]
  exact ⟨fun h0 => absurd h0 h.1, fun i hi => wpOp_of_qOp hw (fun a' w' hw' h' => any_of_head hL f _ a' w' hw' h') (h.2 i hi).2⟩

theorem head_first {n i : Nat} {oi : Oper} {v : Value} {L : Array Bool → Act → Prop} (hi : ops[i]? = some oi) (hsel : ∀ (j : Nat) (o : Oper) cs b, ops[j]? = some o → o.op ≠ .select cs b)
  (hs : Region.sinkB md ops n = true) (hc : Region.chainB md ops n = true) (hn : n < ops.size) (hin : i < n)
  (hdone : ∀ listed a, L listed a → ∀ j ∈ Region.ready md ops listed, n ≤ j) (f : Nat) :
  ∀ (listed : Array Bool) (a : Act), HeadInv md ops n listed →
   (∀ j oj, ops[j]? = some oj → j ≠ i → listed.getD j true = false → (∀ e ∈ oj.after, Region.binds md e = true → e.on ≠ i) → oi.apart ops oj = true) →
   i ∈ Region.ready md ops listed → YieldsIn P ops C oi v a →
   headAny P md ops C n L f (listed.setIfInBounds i true) (a.put oi.dst v) → headAny P md ops C n L (f + 1) listed a := by
 induction f with
 | zero =>
  intro listed a inv _ hr hy H
  have hun := (mem_ready.1 hr).1
  have early : ∀ j ∈ Region.ready md ops listed, j < n := fun j hj =>
   Nat.lt_of_not_le fun hle => tail_waits hs hc hn inv _ i rfl hin hun j hle hj
  refine ⟨List.ne_nil_of_mem hr, fun j hj => ⟨early j hj, ?_⟩⟩
  by_cases hji : j = i
  ·subst hji; exact hy.qOp hi H
  ·exact absurd (hdone _ _ H j (ready_mono hj hji)) (Nat.not_le_of_lt (early j hj))
 | succ f ih =>
  intro listed a inv hfree hr hy H
  have hun := (mem_ready.1 hr).1
  have early : ∀ j ∈ Region.ready md ops listed, j < n := fun j hj =>
   Nat.lt_of_not_le fun hle => tail_waits hs hc hn inv _ i rfl hin hun j hle hj
  refine ⟨List.ne_nil_of_mem hr, fun j hj => ⟨early j hj, ?_⟩⟩
  by_cases hji : j = i
  ·subst hji; exact hy.qOp hi H
  ·have h1 := (H.2 j (ready_mono hj hji)).2
   obtain ⟨hjun, oj, hoj, hall⟩ := mem_ready.1 hj
   have hnot : ∀ e ∈ oj.after, Region.binds md e = true → e.on ≠ i := fun e he hb heq => by
    have h2 := hall e he hb
    rw [heq, getD_both hun] at h2
    cases h2
   have h2 := qOp_put hoj (hfree j oj hoj hji hjun hnot) (fun cs b => hsel i oi cs b hi) (fun cs b => hsel j oj cs b hoj) hy h1
   have hfree' : ∀ k ok, ops[k]? = some ok → k ≠ i → (listed.setIfInBounds j true).getD k true = false →
     (∀ e ∈ ok.after, Region.binds md e = true → e.on ≠ i) → oi.apart ops ok = true := fun k ok hk hki hu hno => by
    refine hfree k ok hk hki ?_ hno
    by_cases hjk : j = k
    ·subst hjk; exact hjun
    ·rw [getD_set_ne true hjk] at hu; exact hu
   refine qOp_mono (fun a' h3 => ih (listed.setIfInBounds j true) a' (inv.set hj (early j hj)) hfree' (ready_mono hr (Ne.symm hji)) h3.1 ?_) h2
   rw [Array.setIfInBounds_comm _ _ hji]
   exact h3.2

theorem head_lex {n g : Nat} {Lq : Act → Prop} (hsel : Region.noSelect ops = true) (hs : Region.sinkB md ops n = true) (hc : Region.chainB md ops n = true) (hn : n < ops.size) :
  ∀ (l : List Oper) (k : Nat) (listed : Array Bool) (a : Act), (∀ j, j < l.length → l[j]? = ops[k + j]?) → k + l.length = n → HeadInv md ops n listed →
  Region.lexHead md ops g l.length k listed = true → wpQuiet P ops C Lq l a →
  headAny P md ops C n (fun listed' a' => Region.seqB md ops g n listed' = true ∧ Lq a') l.length listed a
 | [], k, listed, a, _, hk, _, hB, h => by
  obtain rfl : k = n := by simpa using hk
  exact ⟨by simpa [Region.lexHead] using hB, h⟩
 | o :: l, k, listed, a, hl, hk, inv, hB, h => by
  have h0 : ops[k]? = some o := by simpa using (hl 0 (by simp)).symm
  simp only [List.length_cons, Region.lexHead, Bool.and_eq_true] at hB
  obtain ⟨⟨hr, hf⟩, hB'⟩ := hB
  simp only [List.length_cons] at hk
  have hkn : k < n := by omega
  have hr' : k ∈ Region.ready md ops listed := by simpa using hr
  have hst : qOp P ops C k (wpQuiet P ops C Lq l) a := by unfold qOp; simp only [h0]; exact h
  obtain ⟨v, hy, hK⟩ := yieldsIn_of_qOp h0 hst
  exact head_first h0 (Region.noSelect_spec hsel) hs hc hn hkn (fun listed' a' hL => seqB_ready hL.1) l.length listed a inv (Region.free_spec h0 hf) hr' hy
   (head_lex hsel hs hc hn l (k + 1) _ _ (fun j hj => by have := hl (j + 1) (by simp; omega); simpa [Nat.add_assoc, Nat.add_comm 1 j] using this) (by omega) (inv.set hr' hkn) hB' hK)

theorem region_bw_tail {id : Nat} {Q : Exit → Act → World → Prop} {a : Act} {w : World} {l : List Oper} (n : Nat) (hm : P.follows .mixedOrders = true) (hB : Region.lexTailB .any l.toArray n = true)
  (h : wpQuiet P l.toArray (fun w' => ∃ d, w' = bw w d) (fun a' => ∀ w', (∃ d, w' = bw w d) → wpList P l.toArray Q (l.drop n) a' w') (l.take n) a) : (Code.region id l.toArray true).wp P Q a w := by
 simp only [Region.lexTailB, Bool.and_eq_true, decide_eq_true_eq] at hB
 obtain ⟨⟨⟨⟨hsel, hn⟩, hs⟩, hc⟩, hlex⟩ := hB
 have hn' : n < l.length := by simpa using hn
 have htl : (l.take n).length = n := by simp; omega
 have hdl : (l.drop n).length = l.toArray.size - n := by simp
 have inv0 : HeadInv .any l.toArray n (Array.replicate l.toArray.size false) :=
  ⟨by simp, fun j oj _ hl => (by rw [getD_replicate_false] at hl; cases hl), fun t _ ht => getD_in (by simpa using ht) (getD_replicate_false _ _)⟩
 have H := head_lex (md := .any) (g := l.toArray.size - n) hsel hs hc hn (l.take n) 0 _ a (fun j hj => by
  have hj' : j < n := by rw [htl] at hj; exact hj
  simp [hj']) (by simpa using htl) inv0 (by rw [htl]; exact hlex) h
 refine wp_region_any hm ?_
 have := any_of_head (Q' := Q) (g := l.toArray.size - n) (fun listed a' w' hw' hL => by
  have := wpAny_of_seq (md := .any) (Q' := Q) (l.drop n) n listed a' w' (fun j => by simp [List.getElem?_drop]) (by rw [hdl]; exact hL.1) (hL.2 w' hw')
  rwa [hdl] at this) _ _ _ { w with drawn := w.drawn + 1 } ⟨_, bw_drewExt w⟩ H
 rw [htl, show n + (l.toArray.size - n) = l.toArray.size by omega] at this
 exact this
end

end Go.Proofs.YtcbicpbbjbkiaaaGreatDoor
namespace Go.Proofs.YtcbicpbbjbkiaaaGreatDoor
open Go.RowKit

def Ext.n (d : Ext) : Nat := d.blocks.size
def lay (w : World) : List (Obj ⊕ Ext) → World
 | [] => w
 | .inl o :: L => (lay w L).alloc o
 | .inr d :: L => bw (lay w L) d
def shp : List (Obj ⊕ Ext) → List Nat
 | [] => []
 | .inl _ :: L => 1 :: shp L
 | .inr d :: L => d.n :: shp L
def posn (w : World) (p : List Nat) : Nat := w.heap.size + p.sum
def objS : List (Obj ⊕ Ext) → Nat → Option Obj
 | .inl o :: _, 0 => some o
 | _ :: L, n + 1 => objS L n
 | _, _ => none
def cellS : List (Obj ⊕ Ext) → Nat → Nat → Option Value
 | .inl (.cells c _ _) :: _, 0, i => c[i]?
 | _ :: L, n + 1, i => cellS L n i
 | _, _, _ => none
def frozS : List (Obj ⊕ Ext) → Nat → Nat → Bool
 | .inl (.cells _ _ f) :: _, 0, i => decide (f.1 ≤ i) && decide (i < f.2)
 | _ :: L, n + 1, i => frozS L n i
 | _, _, _ => false
def updS : List (Obj ⊕ Ext) → Nat → Nat → Value → List (Obj ⊕ Ext)
 | .inl (.cells c t f) :: L, 0, i, v => .inl (.cells (c.setIfInBounds i v) t f) :: L
 | x :: L, n + 1, i, v => x :: updS L n i v
 | L, _, _, _ => L

section
variable (w : World) (o : Obj) (d : Ext) (L : List (Obj ⊕ Ext)) (x : Obj ⊕ Ext) (n i : Nat) (v : Value) (c : Array Value) (t : TypeId) (f : Nat × Nat)
@[go_sem] theorem lay_alloc : (lay w L).alloc o = lay w (.inl o :: L) := rfl
@[go_sem] theorem lay_bw : bw (lay w L) d = lay w (.inr d :: L) := rfl
@[go_sem] theorem shp_nil : shp [] = [] := rfl
@[go_sem] theorem shp_inl : shp (.inl o :: L) = 1 :: shp L := rfl
@[go_sem] theorem shp_inr : shp (.inr d :: L) = d.n :: shp L := rfl
@[go_sem] theorem objS_0 : objS (.inl o :: L) 0 = some o := rfl
@[go_sem] theorem objS_s : objS (x :: L) (n + 1) = objS L n := by cases x <;> rfl
@[go_sem] theorem cellS_0 : cellS (.inl (.cells c t f) :: L) 0 i = c[i]? := rfl
@[go_sem] theorem cellS_s : cellS (x :: L) (n + 1) i = cellS L n i := by cases x with | inl o => cases o <;> rfl | inr d => rfl
@[go_sem] theorem frozS_0 : frozS (.inl (.cells c t f) :: L) 0 i = (decide (f.1 ≤ i) && decide (i < f.2)) := rfl
@[go_sem] theorem frozS_s : frozS (x :: L) (n + 1) i = frozS L n i := by cases x with | inl o => cases o <;> rfl | inr d => rfl
@[go_sem] theorem updS_0 : updS (.inl (.cells c t f) :: L) 0 i v = .inl (.cells (c.setIfInBounds i v) t f) :: L := rfl
@[go_sem] theorem updS_s : updS (x :: L) (n + 1) i v = x :: updS L n i v := by cases x with | inl o => cases o <;> rfl | inr d => rfl
@[go_sem] theorem lay_size : (lay w L).heap.size = posn w (shp L) := by
 induction L with
 | nil => simp [lay, shp, posn]
 | cons x L ih =>
  cases x with
  | inl o => simp only [lay, World.size_alloc, ih, shp, posn, List.sum_cons]; omega
  | inr d => simp only [lay, shp, posn, List.sum_cons, bw, Array.size_append, ih, Ext.n]; omega
theorem lay_extends : Below w.heap.size w (lay w L) := by
 induction L with
 | nil => exact Below.refl _ _
 | cons x L ih =>
  cases x with
  | inl o => exact ih.alloc ih.size o
  | inr d => exact below_bw ih ih.size
theorem lay_ex : ∃ d, lay w L = bw w d := bw_of (lay_extends w L)
@[go_sem] theorem lay_old (b : Nat) (h : b < w.heap.size) : (lay w L).cell? ⟨b, i, none⟩ = w.cell? ⟨b, i, none⟩ := (lay_extends w L).cell (p := ⟨b, i, none⟩) h
@[go_sem] theorem lay_oldf (b : Nat) (h : b < w.heap.size) : (lay w L).frozen? ⟨b, i, none⟩ = w.frozen? ⟨b, i, none⟩ := (lay_extends w L).frozen (p := ⟨b, i, none⟩) h
@[go_sem] theorem lay_oldb (b : Nat) (h : b < w.heap.size) : (lay w L).heap[b]? = w.heap[b]? := (lay_extends w L).block b h
@[go_sem] theorem lay_olds (b : Nat) (h : b < w.heap.size) : (lay w L).shape? b = w.shape? b := by unfold World.shape?; rw [lay_oldb w L b h]
@[go_sem] theorem lt_posn (p : List Nat) (b : Nat) (h : b < w.heap.size) : (b < posn w p) = True := eq_true (by unfold posn; omega)
@[go_sem] theorem le_posn (p : List Nat) (b : Nat) (h : b < w.heap.size) : (b ≤ posn w p) = True := eq_true (by unfold posn; omega)
@[go_sem] theorem base_le_posn (p : List Nat) : (w.heap.size ≤ posn w p) = True := eq_true (by unfold posn; omega)

end
def isC : List (Obj ⊕ Ext) → Nat → Bool
 | .inl (.cells _ _ _) :: _, 0 => true
 | _ :: L, n + 1 => isC L n
 | _, _ => false
@[go_sem] theorem isC_0 (c : Array Value) (t : TypeId) (f : Nat × Nat) (L : List (Obj ⊕ Ext)) : isC (.inl (.cells c t f) :: L) 0 = true := rfl
@[go_sem] theorem isC_s (x : Obj ⊕ Ext) (L : List (Obj ⊕ Ext)) (n : Nat) : isC (x :: L) (n + 1) = isC L n := by cases x with | inl o => cases o <;> rfl | inr d => rfl

theorem lay_get (w : World) : ∀ (L : List (Obj ⊕ Ext)) (k : Nat) (o : Obj), objS L k = some o → (lay w L).heap[posn w ((shp L).drop (k + 1))]? = some o
 | [], k, o, h => by cases k <;> simp [objS] at h
 | .inl o' :: L, 0, o, h => by
  simp only [objS, Option.some.injEq] at h
  subst h
  simp only [shp, List.drop_succ_cons, List.drop_zero, ← lay_size]
  show ((lay w L).heap.push o')[_]? = _
  simp
 | .inr d :: L, 0, o, h => by simp [objS] at h
 | x :: L, k + 1, o, h => by
  rw [objS_s] at h
  have ih := lay_get w L k o h
  have hlt := (Array.getElem?_eq_some_iff.1 ih).1
  cases x with
  | inl o' => simp only [shp, List.drop_succ_cons]; exact (Below.heap_alloc _ _ _ hlt).trans ih
  | inr d => simp only [shp, List.drop_succ_cons]; exact (bw_get _ _ _ hlt).trans ih
theorem obj_of_isC : ∀ (L : List (Obj ⊕ Ext)) (k : Nat), isC L k = true → ∃ c t f, objS L k = some (.cells c t f)
 | [], k, h => by cases k <;> simp [isC] at h
 | .inl (.cells c t f) :: L, 0, _ => ⟨c, t, f, rfl⟩
 | x :: L, k + 1, h => by rw [isC_s] at h; rw [objS_s]; exact obj_of_isC L k h
 | .inr _ :: _, 0, h => by simp [isC] at h
 | .inl (.pending _ _) :: _, 0, h => by simp [isC] at h
 | .inl (.view _ _) :: _, 0, h => by simp [isC] at h
 | .inl (.number _ _) :: _, 0, h => by simp [isC] at h
 | .inl (.map _ _) :: _, 0, h => by simp [isC] at h
 | .inl (.chan _ _ _ _ _ _) :: _, 0, h => by simp [isC] at h
 | .inl (.stringIter _ _) :: _, 0, h => by simp [isC] at h
 | .inl (.mapIter _ _ _ _) :: _, 0, h => by simp [isC] at h
 | .inl (.loop _) :: _, 0, h => by simp [isC] at h
 | .inl (.deferred _) :: _, 0, h => by simp [isC] at h
 | .inl (.coro _) :: _, 0, h => by simp [isC] at h
 | .inl (.finalizers _ _) :: _, 0, h => by simp [isC] at h
theorem cellS_of : ∀ (L : List (Obj ⊕ Ext)) (k i : Nat) (c : Array Value) (t : TypeId) (f : Nat × Nat), objS L k = some (.cells c t f) → cellS L k i = c[i]? ∧ frozS L k i = (decide (f.1 ≤ i) && decide (i < f.2))
 | [], k, _, _, _, _, h => by cases k <;> simp [objS] at h
 | .inl o :: L, 0, _, _, _, _, h => by simp only [objS, Option.some.injEq] at h; subst h; exact ⟨rfl, rfl⟩
 | .inr _ :: _, 0, _, _, _, _, h => by simp [objS] at h
 | x :: L, k + 1, i, c, t, f, h => by rw [objS_s] at h; rw [cellS_s, frozS_s]; exact cellS_of L k i c t f h
theorem lay_set (w : World) (i : Nat) (v : Value) : ∀ (L : List (Obj ⊕ Ext)) (k : Nat), isC L k = true → (lay w L).setCell ⟨posn w ((shp L).drop (k + 1)), i, none⟩ v = lay w (updS L k i v)
 | [], k, h => by cases k <;> simp [isC] at h
 | .inl o :: L, 0, h => by
  cases o with
  | cells c t f =>
   simp only [shp, List.drop_succ_cons, List.drop_zero, ← lay_size, lay, updS]
   unfold World.setCell World.alloc
   congr 1
   apply Array.ext_getElem?
   intro k
   rw [Array.getElem?_modify]
   by_cases hk : (lay w L).heap.size = k
   ·subst hk; simp
   ·have hk' : k ≠ (lay w L).heap.size := fun e => hk e.symm
    simp [hk, hk', Array.getElem?_push]
  | _ => simp [isC] at h
 | .inr d :: L, 0, h => by simp [isC] at h
 | x :: L, k + 1, h => by
  rw [isC_s] at h
  have ih := lay_set w i v L k h
  obtain ⟨c, t, f, ho⟩ := obj_of_isC L k h
  have hlt := (Array.getElem?_eq_some_iff.1 (lay_get w L k _ ho)).1
  rw [updS_s]
  cases x with
  | inl o' => simp only [shp, List.drop_succ_cons, lay]; rw [World.setCell_alloc_past _ _ _ _ hlt, ih]
  | inr d => simp only [shp, List.drop_succ_cons, lay]; rw [bw_setCell _ _ _ _ _ hlt, ih]

section
variable (w : World) (L : List (Obj ⊕ Ext)) (p : List Nat) (i : Nat) (v : Value)
theorem depth_eq (h : (shp L).drop (L.length - p.length) = p) (h2 : p.length < L.length) : p = (shp L).drop (L.length - p.length - 1 + 1) := by
 rw [show L.length - p.length - 1 + 1 = L.length - p.length by omega]; exact h.symm
@[go_sem] theorem lay_cell (h2 : p.length < L.length) (h : (shp L).drop (L.length - p.length) = p) (h3 : isC L (L.length - p.length - 1) = true) :
  (lay w L).cell? ⟨posn w p, i, none⟩ = cellS L (L.length - p.length - 1) i := by
 obtain ⟨c, t, f, ho⟩ := obj_of_isC L _ h3
 have := lay_get w L _ _ ho
 rw [← depth_eq L p h h2] at this
 rw [(cellS_of L _ i c t f ho).1]
 simp [World.cell?, this]
@[go_sem] theorem lay_froz (h2 : p.length < L.length) (h : (shp L).drop (L.length - p.length) = p) (h3 : isC L (L.length - p.length - 1) = true) :
  (lay w L).frozen? ⟨posn w p, i, none⟩ = frozS L (L.length - p.length - 1) i := by
 obtain ⟨c, t, f, ho⟩ := obj_of_isC L _ h3
 have := lay_get w L _ _ ho
 rw [← depth_eq L p h h2] at this
 rw [(cellS_of L _ i c t f ho).2]
 obtain ⟨f1, f2⟩ := f
 simp [World.frozen?, this]
@[go_sem] theorem lay_setCell (h2 : p.length < L.length) (h : (shp L).drop (L.length - p.length) = p) (h3 : isC L (L.length - p.length - 1) = true) :
  (lay w L).setCell ⟨posn w p, i, none⟩ v = lay w (updS L (L.length - p.length - 1) i v) := by
 have := lay_set w i v L _ h3
 rw [← depth_eq L p h h2] at this
 exact this
@[go_sem] theorem lay_heap (h2 : p.length < L.length) (h : (shp L).drop (L.length - p.length) = p) (h3 : (objS L (L.length - p.length - 1)).isSome = true) :
  (lay w L).heap[posn w p]? = objS L (L.length - p.length - 1) := by
 obtain ⟨o, ho⟩ := Option.isSome_iff_exists.1 h3
 have := lay_get w L _ _ ho
 rw [← depth_eq L p h h2] at this
 rw [this, ho]
end
theorem lay_start {P : Program} {f : FuncId} {args : Array Value} {w : World} {R : Ending → World → Prop} (h : Calls P f args (lay w []) R) : Calls P f args w R := h
theorem bq {P : Program} {f : FuncId} {args : Array Value} {W : World} {v : Value} {C : World → Prop}
  (h : Calls P f args W fun e w' => e = .returned v ∧ ∃ d, w' = bw W d) (hC : ∀ d, C (bw W d)) : Calls P f args W fun e w' => e = .returned v ∧ C w' :=
 h.mono fun _ _ ⟨he, d, hw⟩ => ⟨he, by rw [hw]; exact hC d⟩
theorem bqs {P : Program} {f : FuncId} {args : Array Value} {W : World} {v : Value} {C : World → Prop}
  (h : Calls P f args W fun e w' => e = .returned v ∧ w' = W) (hC : C W) : Calls P f args W fun e w' => e = .returned v ∧ C w' :=
 h.mono fun _ _ ⟨he, hw⟩ => ⟨he, by rw [hw]; exact hC⟩
theorem lay_join (w : World) (L : List (Obj ⊕ Ext)) (d e : Ext) : ∃ x, bw (lay w (.inr d :: L)) e = lay w (.inr x :: L) := ⟨_, bw_bw (lay w L) d e⟩
theorem cell_on {w : World} {L : List (Obj ⊕ Ext)} {b i : Nat} {v : Value} (h : (lay w L).cell? ⟨b, i, none⟩ = some v) (x : Obj ⊕ Ext) : (lay w (x :: L)).cell? ⟨b, i, none⟩ = some v := by
 have hlt := World.block_lt_of_cell? _ _ h
 cases x with
 | inl o => exact (World.cell?_alloc_past _ _ _ hlt).trans h
 | inr d => exact (bw_cell _ _ _ _ hlt).trans h
end Go.Proofs.YtcbicpbbjbkiaaaGreatDoor
namespace Go.Proofs.YtcbicpbbjbkiaaaGreatDoor
open Go.ChangeShapes Go.WideShapes Go.ChangeAt Go.RowKit Go.Joins

theorem ownKnob_none : ownKnob Tryz.prog.godebug = none := by kernel_rfl
theorem laid_out : laidOutB Tryz.prog = true := by kernel_rfl

theorem trodAll_stays {H : Type} {enc : TypeId × Value → H} {P : Program} (hl : laidOutB P = true) {W W' : World} (hb : Below W.heap.size W W') :
  ∀ (ts : List TypeId) (vs : List Value) (ds : List (DataW H)) (ps : List MemPlace), ts.all (fun t => P.readableRec t && decide (t < P.types.size)) = true →
  (∀ x ∈ ps, x.block < W.heap.size) → DataW.TrodAll enc P W 0 (fun _ => true) true ts vs ds ps → DataW.TrodAll enc P W' 0 (fun b => decide (b < W.heap.size)) true ts vs ds ps
 | [], vs, ds, ps, _, _, h => by cases vs <;> cases ds <;> simp_all [DataW.TrodAll]
 | t :: ts, vs, ds, ps, hr, hlt, h => by
  obtain ⟨v, vs', d, ds', p, q, rfl, rfl, rfl, h1, h2⟩ := trodAll_cons h
  simp only [List.all_cons, Bool.and_eq_true, decide_eq_true_eq] at hr
  exact ⟨p, q, Below.trod hl hr.1.1 hr.1.2 h1 hb (fun x hx => hlt x (List.mem_append_left _ hx)),
   trodAll_stays hl hb ts vs' ds' q hr.2 (fun x hx => hlt x (List.mem_append_right _ hx)) h2, rfl⟩

theorem law_post {H : Type} {enc : TypeId × Value → H} {P : Program} {f : Func} {s : ChangeSpec} {W W' : World} {args : Array Value} {ds : List (DataW H)} {before : List MemPlace} {tb : TypeId}
  (hl : laidOutB P = true) (hW : DataW.Whole enc P f.params.toList s.vars false W args.toList ds [] before) (hv : s.vars = [])
  (hs : s.fn H (ds ++ []) = { results := [.lit (.bool true)], args := ds }) (hrt : f.resultTypes = #[tb]) (htb : P.underlying tb = some .bool)
  (hr : f.params.toList.all (fun t => P.readableRec t && decide (t < P.types.size)) = true) (hb : Below W.heap.size W W') :
  s.post enc P f false true false false W args (.bool true) W' := by
 have hlt := hW.lt
 have hW' := hW
 obtain ⟨p, q, hA, hV, rfl, hfz, hnd⟩ := hW'
 rw [hv] at hV
 have hq : q = [] := by simpa [DataW.TrodVars] using hV
 subst hq
 simp only [List.append_nil] at hlt hW
 refine ⟨ds, [], p, [], p, [], hW, ?_, ?_, ?_, hb.frame _, fun h => by cases h⟩
 ·rw [hs, hrt]
  exact ⟨[], [], shut_bool htb true, rfl, rfl⟩
 ·rw [hs]
  exact trodAll_stays hl hb _ _ _ _ hr hlt hA
 ·rw [hs, hv]
  rfl
end Go.Proofs.YtcbicpbbjbkiaaaGreatDoor
namespace Go.Proofs.YtcbicpbbjbkiaaaGreatDoor
open Go.RowKit

def extUpon (P : Program) (w : World) (v : Value) : Result Next → Prop
 | .ok (.value u) w' => w' = w ∧ u = v
 | .ok .skip w' => w' = w ∧ v = undef
 | .ok (.enter f args) w' => w' = w ∧ Calls P f args w (fun e w'' => e = .returned v ∧ ∃ d, w'' = bw w d)
 | _ => False
def extOp (P : Program) (o : Oper) (a : Act) (W : World) (next : Act → Prop) : Prop := ∃ v, (∀ d : Ext, extUpon P (bw W d) v ((execOp a.eval o).run P (bw W d))) ∧ next (a.put o.dst v)
attribute [go_sem] extOp extUpon

section
variable {P : Program} {ops : Array Oper} {md : Region.Mode} {W : World}
end
/-! ### Two allocs -/
section
variable {P : Program} {ops : Array Oper} {md : Region.Mode} {W : World}
end
section
variable {P : Program} {ops : Array Oper} {md : Region.Mode} {W : World}
end
end Go.Proofs.YtcbicpbbjbkiaaaGreatDoor
namespace Go.Proofs.YtcbicpbbjbkiaaaGreatDoor
open Go.RowKit

def mUpon {κ : Type} (P : Program) (Cl : κ → World) (k : κ) (v : Value) : Result Next → Prop
 | .ok (.value u) w' => w' = Cl k ∧ u = v
 | .ok .skip w' => w' = Cl k ∧ v = undef
 | .ok (.enter f args) w' => w' = Cl k ∧ Calls P f args (Cl k) (fun e w'' => e = .returned v ∧ ∃ d, w'' = bw (Cl k) d)
 | _ => False
def mOp {κ : Type} (P : Program) (Cl : κ → World) (o : Oper) (a : Act) (next : Act → Prop) : Prop := ∃ v, (∀ k, mUpon P Cl k v ((execOp a.eval o).run P (Cl k))) ∧ next (a.put o.dst v)
def sUpon (P : Program) (K : Act → World → Prop) (a : Act) (dst : Option Tmp) : Result Next → Prop
 | .ok (.value u) w' => K (a.put dst u) w'
 | .ok .skip w' => K (a.put dst undef) w'
 | .ok (.enter f args) w' => Calls P f args w' (fun e w'' => ∃ v, e = .returned v ∧ K (a.put dst v) w'')
 | _ => False
def sOp (P : Program) (o : Oper) (a : Act) (K : Act → World → Prop) (w : World) : Prop := sUpon P K a o.dst ((execOp a.eval o).run P w)
attribute [go_sem] mUpon mOp sUpon sOp

section
variable {P : Program} {ops : Array Oper} {md : Region.Mode} {κ : Type} {Cl : κ → World}

def oneOp (P : Program) (ops : Array Oper) (i : Nat) (K : Act → World → Prop) (a : Act) (w : World) : Prop :=
 match ops[i]? with
 | none => K a w
 | some o => if Region.wanted o (yielded ops a.tmps) then sOp P o a K w else K (a.put o.dst undef) w
theorem oneOp_some {i : Nat} {o : Oper} {K : Act → World → Prop} {a : Act} {w : World} (hi : ops[i]? = some o) :
  oneOp P ops i K a w = if Region.wanted o (yielded ops a.tmps) then sOp P o a K w else K (a.put o.dst undef) w := by unfold oneOp; rw [hi]
theorem sOp_mono {o : Oper} {K K' : Act → World → Prop} {a : Act} {w : World} (h : ∀ a w, K a w → K' a w) (hh : sOp P o a K w) : sOp P o a K' w := by
 unfold sOp at *
 generalize (execOp a.eval o).run P w = r at *
 cases r with
 | ok nx w' =>
  cases nx <;> simp only [sUpon] at hh ⊢
  case value x => exact h _ _ hh
  case skip => exact h _ _ hh
  case enter f args => exact hh.mono fun e w'' ⟨v, he, hk⟩ => ⟨v, he, h _ _ hk⟩
 | halt x w' => simp only [sUpon] at hh
theorem oneOp_mono {i : Nat} {K K' : Act → World → Prop} {a : Act} {w : World} (h : ∀ a w, K a w → K' a w) (hh : oneOp P ops i K a w) : oneOp P ops i K' a w := by
 unfold oneOp at *
 split
 ·rename_i ho; simp only [ho] at hh; exact h _ _ hh
 ·rename_i o ho
  simp only [ho] at hh
  split
  ·rename_i hw; rw [if_pos hw] at hh; exact sOp_mono h hh
  ·rename_i hw; rw [if_neg hw] at hh; exact h _ _ hh
theorem wp_of_sOp {o : Oper} {K : Act → World → Prop} {Q' : Exit → Act → World → Prop} {a : Act} {w : World} (hh : sOp P o a K w) : o.wp P a w K Q' := by
 unfold sOp at hh
 unfold Oper.wp
 generalize (execOp a.eval o).run P w = r at *
 cases r with
 | ok nx w' =>
  cases nx <;> simp only [sUpon] at hh <;> simp only [Oper.upon]
  case value x => exact hh
  case skip => exact hh
  case enter f args => exact hh.mono fun e w'' ⟨v, he, hk⟩ => by subst he; exact hk
 | halt x w' => simp only [sUpon] at hh

def wpC (P : Program) (md : Region.Mode) (ops : Array Oper) (Cl : κ → World) (Q : Act → World → Prop) : Nat → Array Bool → Act → World → Prop
 | 0, listed, a, w => Region.ready md ops listed = [] ∧ ∀ d, Q a (bw w d)
 | f + 1, listed, a, w => Region.ready md ops listed ≠ [] ∧ ∀ i ∈ Region.ready md ops listed, ∀ d, oneOp P ops i (fun a' w' => (∃ k, w' = Cl k) ∧ wpC P md ops Cl Q f (listed.setIfInBounds i true) a' w') a (bw w d)
def noExt (w : World) : Ext := ⟨#[], w.drawn⟩
theorem bw_noExt (w : World) : bw w (noExt w) = w := by
 show ({ w with heap := w.heap ++ #[], drawn := w.drawn } : World) = w
 rw [Array.append_empty]
theorem wpC_ext {Q : Act → World → Prop} : ∀ {f : Nat} {listed : Array Bool} {a : Act} {w : World} (d : Ext), wpC P md ops Cl Q f listed a w → wpC P md ops Cl Q f listed a (bw w d)
 | 0, _, _, w, d, h => ⟨h.1, fun e => by rw [bw_bw]; exact h.2 _⟩
 | _ + 1, _, _, w, d, h => ⟨h.1, fun i hi e => by rw [bw_bw]; exact h.2 i hi _⟩
theorem wpC_sound {Q' : Exit → Act → World → Prop} : ∀ (f : Nat) (listed : Array Bool) (a : Act) (w : World), wpC P md ops Cl (fun a w => Q' .normal a w) f listed a w → wpAny P md ops Q' f listed a w
 | 0, listed, a, w, h => ⟨h.1, by have := h.2 (noExt w); rwa [bw_noExt] at this⟩
 | f + 1, listed, a, w, h => by
  refine ⟨fun h0 => absurd h0 h.1, fun i hi => ?_⟩
  have h1 := h.2 i hi (noExt w)
  rw [bw_noExt] at h1
  unfold oneOp at h1
  unfold wpOp
  split
  ·rename_i ho; simp only [ho] at h1; exact wpC_sound f _ _ _ h1.2
  ·rename_i o ho
   simp only [ho] at h1
   split
   ·rename_i hw; rw [if_pos hw] at h1
    exact Or.inl (wp_of_sOp (sOp_mono (fun a w hk => wpC_sound f _ a w hk.2) h1))
   ·rename_i hw; rw [if_neg hw] at h1; exact wpC_sound f _ _ _ h1.2

def YieldsM (P : Program) (ops : Array Oper) (Cl : κ → World) (o : Oper) (v : Value) (a : Act) : Prop :=
 (Region.wanted o (yielded ops a.tmps) = true ∧ ∀ k, mUpon P Cl k v ((execOp a.eval o).run P (Cl k))) ∨ (Region.wanted o (yielded ops a.tmps) = false ∧ v = undef)
theorem YieldsM.oneOp {i : Nat} {o : Oper} {v : Value} {a : Act} {w : World} (hi : ops[i]? = some o) (hy : YieldsM P ops Cl o v a) (hw : ∃ k, w = Cl k) {K : Act → World → Prop}
  (h0 : K (a.put o.dst v) w) (h : ∀ d, K (a.put o.dst v) (bw w d)) : Go.Proofs.YtcbicpbbjbkiaaaGreatDoor.oneOp P ops i K a w := by
 rw [oneOp_some hi]
 rcases hy with ⟨hw1, hv⟩ | ⟨hw1, rfl⟩
 ·rw [if_pos hw1]
  obtain ⟨k, rfl⟩ := hw
  have h3 := hv k
  unfold sOp
  generalize (execOp a.eval o).run P (Cl k) = r at *
  cases r with
  | ok nx w' =>
   cases nx <;> simp only [mUpon] at h3 <;> simp only [sUpon]
   case value x => obtain ⟨e1, e2⟩ := h3; rw [e1, e2]; exact h0
   case skip => obtain ⟨e1, e2⟩ := h3; rw [e1, ← e2]; exact h0
   case enter f args =>
    obtain ⟨e1, hc⟩ := h3
    rw [e1]
    exact hc.mono fun e w'' ⟨he, d, hd⟩ => ⟨v, he, by rw [hd]; exact h d⟩
  | halt x w' => simp only [mUpon] at h3
 ·rw [if_neg (by rw [hw1]; exact Bool.false_ne_true)]; exact h0
theorem YieldsM.keep {oi oj : Oper} {v : Value} {a : Act} (hsi : ∀ cs b, oi.op ≠ .select cs b) (h3 : ∀ d, oj.dst = some d → d ∉ oi.looksAt ops) (hy : YieldsM P ops Cl oi v a) (u : Value) : YieldsM P ops Cl oi v (a.put oj.dst u) := by
 unfold YieldsM at *
 rw [execOp_put oi hsi a oj.dst u h3, wanted_put oi a oj.dst u h3]
 exact hy
theorem oneOp_put {j : Nat} {oi oj : Oper} {v : Value} {w : World} (hj : ops[j]? = some oj) (hap : oi.apart ops oj = true)
  (hsi : ∀ cs b, oi.op ≠ .select cs b) (hsj : ∀ cs b, oj.op ≠ .select cs b) {K : Act → World → Prop} {a : Act}
  (hy : YieldsM P ops Cl oi v a) (h : oneOp P ops j K (a.put oi.dst v) w) :
  oneOp P ops j (fun a' w' => YieldsM P ops Cl oi v a' ∧ K (a'.put oi.dst v) w') a w := by
 obtain ⟨h1, h2, h3⟩ := Oper.apart_spec hap
 rw [oneOp_some hj, wanted_put oj a oi.dst v h1] at h
 rw [oneOp_some hj]
 split
 ·rename_i hw
  rw [if_pos hw] at h
  unfold sOp at *
  rw [execOp_put oj hsj a oi.dst v h1] at h
  generalize (execOp a.eval oj).run P w = r at *
  cases r with
  | ok nx w' =>
   cases nx <;> simp only [sUpon] at h ⊢
   case value x => exact ⟨hy.keep hsi h3 _, by rw [← Act.put_comm a v x h2]; exact h⟩
   case skip => exact ⟨hy.keep hsi h3 _, by rw [← Act.put_comm a v undef h2]; exact h⟩
   case enter f args => exact h.mono fun e w'' ⟨u, he, hk⟩ => ⟨u, he, hy.keep hsi h3 _, by rw [← Act.put_comm a v u h2]; exact hk⟩
  | halt x w' => simp only [sUpon] at h
 ·rename_i hw
  rw [if_neg hw] at h
  exact ⟨hy.keep hsi h3 _, by rw [← Act.put_comm a v undef h2]; exact h⟩

theorem wpC_first {i : Nat} {oi : Oper} {v : Value} {Q : Act → World → Prop} (hCl : ∀ k d, ∃ k', bw (Cl k) d = Cl k') (hi : ops[i]? = some oi) (hsel : ∀ (j : Nat) (o : Oper) cs b, ops[j]? = some o → o.op ≠ .select cs b) :
  ∀ (f : Nat) (listed : Array Bool) (a : Act) (w : World), (∃ k, w = Cl k) →
   (∀ j oj, ops[j]? = some oj → j ≠ i → listed.getD j true = false → (∀ e ∈ oj.after, Region.binds md e = true → e.on ≠ i) → oi.apart ops oj = true) →
   i ∈ Region.ready md ops listed → YieldsM P ops Cl oi v a →
   wpC P md ops Cl Q f (listed.setIfInBounds i true) (a.put oi.dst v) w → wpC P md ops Cl Q (f + 1) listed a w := by
 have cl : ∀ w d, (∃ k, w = Cl k) → ∃ k, bw w d = Cl k := fun w d ⟨k, hk⟩ => by rw [hk]; exact hCl k d
 intro f
 induction f with
 | zero =>
  intro listed a w hw _ hr hy H
  refine ⟨List.ne_nil_of_mem hr, fun j hj d => ?_⟩
  by_cases hji : j = i
  ·subst hji
   exact hy.oneOp hi (cl w d hw) ⟨cl w d hw, wpC_ext d H⟩ (fun e => ⟨cl _ e (cl w d hw), wpC_ext e (wpC_ext d H)⟩)
  ·have := ready_mono hj hji
   rw [H.1] at this; cases this
 | succ f ih =>
  intro listed a w hw hfree hr hy H
  have hun := (mem_ready.1 hr).1
  refine ⟨List.ne_nil_of_mem hr, fun j hj d => ?_⟩
  by_cases hji : j = i
  ·subst hji
   exact hy.oneOp hi (cl w d hw) ⟨cl w d hw, wpC_ext d H⟩ (fun e => ⟨cl _ e (cl w d hw), wpC_ext e (wpC_ext d H)⟩)
  ·have h1 := H.2 j (ready_mono hj hji) d
   obtain ⟨hjun, oj, hoj, hall⟩ := mem_ready.1 hj
   have hnot : ∀ e ∈ oj.after, Region.binds md e = true → e.on ≠ i := fun e he hb heq => by
    have h2 := hall e he hb
    have h3 : listed.getD i false = false := by
     rcases Nat.lt_or_ge i listed.size with h' | h'
     ·simp [h'] at hun ⊢; exact hun
     ·simp [Array.getElem?_eq_none h'] at hun
    rw [heq, h3] at h2
    cases h2
   have h2 := oneOp_put hoj (hfree j oj hoj hji hjun hnot) (fun cs b => hsel i oi cs b hi) (fun cs b => hsel j oj cs b hoj) hy h1
   have hfree' : ∀ k ok, ops[k]? = some ok → k ≠ i → (listed.setIfInBounds j true).getD k true = false →
     (∀ e ∈ ok.after, Region.binds md e = true → e.on ≠ i) → oi.apart ops ok = true := fun k ok hk hki hu hno => by
    refine hfree k ok hk hki ?_ hno
    by_cases hjk : j = k
    ·subst hjk; exact hjun
    ·rw [getD_set_ne true hjk] at hu; exact hu
   refine oneOp_mono (fun a' w' h3 => ⟨h3.2.1, ih (listed.setIfInBounds j true) a' w' h3.2.1 hfree' (ready_mono hr (Ne.symm hji)) h3.1 ?_⟩) h2
   rw [Array.setIfInBounds_comm _ _ hji]
   exact h3.2.2

def wpM (P : Program) (ops : Array Oper) (Cl : κ → World) (Q : Act → World → Prop) : List Nat → List Oper → Act → World → Prop
 | 0 :: s, o :: l, a, w => if Region.wanted o (yielded ops a.tmps) then mOp P Cl o a (fun a' => wpM P ops Cl Q s l a' w) else wpM P ops Cl Q s l (a.put o.dst undef) w
 | 1 :: s, o :: l, a, w => ∀ d, if Region.wanted o (yielded ops a.tmps) then sOp P o a (fun a' w' => (∃ k, w' = Cl k) ∧ wpM P ops Cl Q s l a' w') (bw w d) else (∃ k, bw w d = Cl k) ∧ wpM P ops Cl Q s l (a.put o.dst undef) (bw w d)
 | 2 :: s, o1 :: o2 :: l, a, w =>
  (∀ d, sOp P o1 a (fun a' w' => (∃ k, w' = Cl k) ∧ ∀ d', sOp P o2 a' (fun a'' w'' => (∃ k, w'' = Cl k) ∧ wpM P ops Cl Q s l a'' w'') (bw w' d')) (bw w d)) ∧
  (∀ d, sOp P o2 a (fun a' w' => (∃ k, w' = Cl k) ∧ ∀ d', sOp P o1 a' (fun a'' w'' => (∃ k, w'' = Cl k) ∧ wpM P ops Cl Q s l a'' w'') (bw w' d')) (bw w d))
 | _, [], a, w => ∀ d, Q a (bw w d)
 | _, _, _, _ => False
def lexM (md : Region.Mode) (ops : Array Oper) : List Nat → Nat → Array Bool → Bool
 | [], k, listed => decide (k = ops.size) && (Region.ready md ops listed).isEmpty
 | 0 :: s, k, listed => decide (k < ops.size) && (Region.ready md ops listed).contains k && Region.free md ops listed k && lexM md ops s (k + 1) (listed.setIfInBounds k true)
 | 1 :: s, k, listed => decide (k < ops.size) && decide (Region.ready md ops listed = [k]) && lexM md ops s (k + 1) (listed.setIfInBounds k true)
 | 2 :: s, k, listed => decide (k + 1 < ops.size) && decide (Region.ready md ops listed = [k, k + 1]) && decide (Region.ready md ops (listed.setIfInBounds k true) = [k + 1]) && decide (Region.ready md ops (listed.setIfInBounds (k + 1) true) = [k]) &&
  (match ops[k]?, ops[k + 1]? with | some o1, some o2 => o1.guard.isNone && o2.guard.isNone | _, _ => false) && lexM md ops s (k + 2) ((listed.setIfInBounds k true).setIfInBounds (k + 1) true)
 | _, _, _ => false

theorem wpC_of_wpM {Q : Act → World → Prop} (hCl : ∀ k d, ∃ k', bw (Cl k) d = Cl k') (hsel : Region.noSelect ops = true) :
  ∀ (s : List Nat) (l : List Oper) (k : Nat) (listed : Array Bool) (a : Act) (w : World), (∀ j, l[j]? = ops[k + j]?) → (∃ k, w = Cl k) → lexM md ops s k listed = true →
  wpM P ops Cl Q s l a w → wpC P md ops Cl Q l.length listed a w
 | [], l, k, listed, a, w, hl, hw, hB, h => by
  simp only [lexM, Bool.and_eq_true, decide_eq_true_eq, List.isEmpty_iff] at hB
  have : l = [] := by
   cases l with
   | nil => rfl
   | cons o l => have := hl 0; rw [Nat.add_zero, hB.1, Array.getElem?_eq_none (Nat.le_refl _)] at this; simp at this
  subst this
  exact ⟨hB.2, h⟩
 | 0 :: s, l, k, listed, a, w, hl, hw, hB, h => by
  simp only [lexM, Bool.and_eq_true, decide_eq_true_eq] at hB
  obtain ⟨⟨⟨hk, hr⟩, hf⟩, hB'⟩ := hB
  cases l with
  | nil => have := hl 0; rw [Nat.add_zero, Array.getElem?_eq_getElem hk] at this; simp at this
  | cons o l =>
   have h0 : ops[k]? = some o := by simpa using (hl 0).symm
   have hr' : k ∈ Region.ready md ops listed := by simpa using hr
   have hy : ∃ v, YieldsM P ops Cl o v a ∧ wpM P ops Cl Q s l (a.put o.dst v) w := by
    simp only [wpM] at h
    by_cases hw1 : Region.wanted o (yielded ops a.tmps) = true
    ·rw [if_pos hw1] at h
     obtain ⟨v, h1, h2⟩ := h
     exact ⟨v, .inl ⟨hw1, h1⟩, h2⟩
    ·rw [if_neg hw1] at h
     exact ⟨undef, .inr ⟨by simpa using hw1, rfl⟩, h⟩
   obtain ⟨v, hy, hK⟩ := hy
   exact wpC_first hCl h0 (Region.noSelect_spec hsel) l.length listed a w hw (Region.free_spec h0 hf) hr' hy
    (wpC_of_wpM hCl hsel s l (k + 1) _ _ w (fun j => by have := hl (j + 1); simpa [Nat.add_assoc, Nat.add_comm 1 j] using this) hw hB' hK)
 | 1 :: s, l, k, listed, a, w, hl, hw, hB, h => by
  simp only [lexM, Bool.and_eq_true, decide_eq_true_eq] at hB
  obtain ⟨⟨hk, hr⟩, hB'⟩ := hB
  cases l with
  | nil => have := hl 0; rw [Nat.add_zero, Array.getElem?_eq_getElem hk] at this; simp at this
  | cons o l =>
   have h0 : ops[k]? = some o := by simpa using (hl 0).symm
   have hl' : ∀ j, l[j]? = ops[k + 1 + j]? := fun j => by have := hl (j + 1); simpa [Nat.add_assoc, Nat.add_comm 1 j] using this
   refine ⟨by rw [hr]; simp, fun i hi d => ?_⟩
   rw [hr] at hi
   obtain rfl : i = k := by simpa using hi
   simp only [wpM] at h
   have hd := h d
   rw [oneOp_some h0]
   split
   ·rename_i hw1; rw [if_pos hw1] at hd
    exact sOp_mono (fun a' w' hk => ⟨hk.1, wpC_of_wpM hCl hsel s l (i + 1) _ _ w' hl' hk.1 hB' hk.2⟩) hd
   ·rename_i hw1; rw [if_neg hw1] at hd
    exact ⟨hd.1, wpC_of_wpM hCl hsel s l (i + 1) _ _ _ hl' hd.1 hB' hd.2⟩
 | 2 :: s, l, k, listed, a, w, hl, hw, hB, h => by
  simp only [lexM, Bool.and_eq_true, decide_eq_true_eq] at hB
  obtain ⟨⟨⟨⟨⟨hk, hr⟩, hr1⟩, hr2⟩, hg⟩, hB'⟩ := hB
  match l with
  | [] => have := hl 0; rw [Nat.add_zero, Array.getElem?_eq_getElem (by omega)] at this; simp at this
  | [o] => have := hl 1; rw [Array.getElem?_eq_getElem hk] at this; simp at this
  | o1 :: o2 :: l =>
   have h1 : ops[k]? = some o1 := by simpa using (hl 0).symm
   have h2 : ops[k + 1]? = some o2 := by simpa using (hl 1).symm
   have hl' : ∀ j, l[j]? = ops[k + 2 + j]? := fun j => by have := hl (j + 2); simpa [Nat.add_assoc, Nat.add_comm 2 j] using this
   rw [h1, h2] at hg
   simp only [Bool.and_eq_true, Option.isNone_iff_eq_none] at hg
   have wa : ∀ a, Region.wanted o1 (yielded ops a) = true := fun a => by simp [Region.wanted, hg.1]
   have wb : ∀ a, Region.wanted o2 (yielded ops a) = true := fun a => by simp [Region.wanted, hg.2]
   simp only [wpM] at h
   refine ⟨by rw [hr]; simp, fun i hi d => ?_⟩
   rw [hr] at hi
   simp only [List.mem_cons, List.not_mem_nil, or_false] at hi
   rcases hi with rfl | rfl
   ·rw [oneOp_some h1, if_pos (wa _)]
    refine sOp_mono (fun a' w' hk => ⟨hk.1, by rw [hr1]; simp, fun j hj e => ?_⟩) (h.1 d)
    rw [hr1] at hj
    obtain rfl : j = i + 1 := by simpa using hj
    rw [oneOp_some h2, if_pos (wb _)]
    exact sOp_mono (fun a'' w'' hk' => ⟨hk'.1, wpC_of_wpM hCl hsel s l (i + 2) _ _ w'' hl' hk'.1 hB' hk'.2⟩) (hk.2 e)
   ·rw [oneOp_some h2, if_pos (wb _)]
    refine sOp_mono (fun a' w' hq => ⟨hq.1, by rw [hr2]; simp, fun j hj e => ?_⟩) (h.2 d)
    rw [hr2] at hj
    obtain rfl : j = k := by simpa using hj
    rw [oneOp_some h1, if_pos (wa _)]
    refine sOp_mono (fun a'' w'' hk' => ⟨hk'.1, wpC_of_wpM hCl hsel s l (j + 2) _ _ w'' hl' hk'.1 ?_ hk'.2⟩) (hq.2 e)
    rw [Array.setIfInBounds_comm _ _ (by omega)]; exact hB'
 | (_ + 3) :: _, _, _, _, _, _, _, _, hB, _ => by simp [lexM] at hB

theorem region_mix {id : Nat} {Q : Exit → Act → World → Prop} {a : Act} {w : World} {l : List Oper} (s : List Nat) (Cl : κ → World) (hm : P.follows .mixedOrders = true) (hsel : Region.noSelect l.toArray = true)
  (hB : lexM .any l.toArray s 0 (Array.replicate l.toArray.size false) = true) (hCl : ∀ k d, ∃ k', bw (Cl k) d = Cl k') (hw : ∃ k, w = Cl k)
  (h : wpM P l.toArray Cl (fun a w => Q .normal a w) s l a w) : (Code.region id l.toArray true).wp P Q a w := by
 refine wp_region_any hm ?_
 have := wpC_of_wpM (md := .any) hCl hsel s l 0 _ a w (fun j => by simp) hw hB h
 have := wpC_ext (⟨#[], w.drawn + 1⟩ : Ext) this
 rw [← bw_drewExt] at this
 have := wpC_sound (Q' := Q) _ _ _ _ this
 simpa using this
theorem region_mixW {id : Nat} {Q : Exit → Act → World → Prop} {a : Act} {w : World} {l : List Oper} (s : List Nat) (hm : P.follows .mixedOrders = true) (hsel : Region.noSelect l.toArray = true)
  (hB : lexM .any l.toArray s 0 (Array.replicate l.toArray.size false) = true)
  (h : wpM P l.toArray (fun d => bw w d) (fun a w => Q .normal a w) s l a w) : (Code.region id l.toArray true).wp P Q a w :=
 region_mix s (fun d => bw w d) hm hsel hB (fun k d => ⟨_, bw_bw w k d⟩) ⟨noExt w, (bw_noExt w).symm⟩ h

theorem wpM_quiet {Q : Act → World → Prop} {a : Act} {w : World} {o : Oper} {l : List Oper} {s : List Nat}
  (h : ∀ K : Act → Prop, (∀ a, wpM P ops Cl Q s l a w → K a) → if Region.wanted o (yielded ops a.tmps) then mOp P Cl o a K else K (a.put o.dst undef)) : wpM P ops Cl Q (0 :: s) (o :: l) a w :=
 h _ (fun _ h => h)
theorem wpM_special {Q : Act → World → Prop} {a : Act} {w : World} {o : Oper} {l : List Oper} {s : List Nat}
  (h : ∀ (K : Act → World → Prop), (∀ a' w', (∃ k, w' = Cl k) → wpM P ops Cl Q s l a' w' → K a' w') → ∀ d, if Region.wanted o (yielded ops a.tmps) then sOp P o a K (bw w d) else K (a.put o.dst undef) (bw w d)) : wpM P ops Cl Q (1 :: s) (o :: l) a w := fun d => by
 have := h (fun a' w' => (∃ k, w' = Cl k) ∧ wpM P ops Cl Q s l a' w') (fun _ _ h1 h2 => ⟨h1, h2⟩) d
 split
 ·rename_i hw; rw [if_pos hw] at this; exact this
 ·rename_i hw; rw [if_neg hw] at this; exact this
theorem wpM_two {Q : Act → World → Prop} {a : Act} {w : World} {o1 o2 : Oper} {l : List Oper} {s : List Nat}
  (h1 : ∀ (J : Act → World → Prop), (∀ a' w', (∃ k, w' = Cl k) → (∀ (K : Act → World → Prop), (∀ a'' w'', (∃ k, w'' = Cl k) → wpM P ops Cl Q s l a'' w'' → K a'' w'') → ∀ d, sOp P o2 a' K (bw w' d)) → J a' w') → ∀ d, sOp P o1 a J (bw w d))
  (h2 : ∀ (J : Act → World → Prop), (∀ a' w', (∃ k, w' = Cl k) → (∀ (K : Act → World → Prop), (∀ a'' w'', (∃ k, w'' = Cl k) → wpM P ops Cl Q s l a'' w'' → K a'' w'') → ∀ d, sOp P o1 a' K (bw w' d)) → J a' w') → ∀ d, sOp P o2 a J (bw w d)) :
  wpM P ops Cl Q (2 :: s) (o1 :: o2 :: l) a w :=
 ⟨h1 _ fun _ _ hc hk => ⟨hc, fun d => hk _ (fun _ _ c h => ⟨c, h⟩) d⟩, h2 _ fun _ _ hc hk => ⟨hc, fun d => hk _ (fun _ _ c h => ⟨c, h⟩) d⟩⟩
theorem wpM_nil {Q : Act → World → Prop} {a : Act} {w : World} (h : ∀ d, Q a (bw w d)) : wpM P ops Cl Q [] [] a w := h
end
theorem lay_append (w : World) (L : List (Obj ⊕ Ext)) : ∀ L1, lay w (L1 ++ L) = lay (lay w L) L1
 | [] => rfl
 | .inl o :: L1 => by show (lay w (L1 ++ L)).alloc o = (lay (lay w L) L1).alloc o; rw [lay_append w L L1]
 | .inr d :: L1 => by show bw (lay w (L1 ++ L)) d = bw (lay (lay w L) L1) d; rw [lay_append w L L1]
theorem lay_fold (w : World) (L1 L : List (Obj ⊕ Ext)) : ∃ e, lay w (L1 ++ L) = lay w (.inr e :: L) := by
 obtain ⟨e, he⟩ := lay_ex (lay w L) L1
 exact ⟨e, (lay_append w L L1).trans he⟩
theorem lay_all (w : World) (L : List (Obj ⊕ Ext)) : ∃ e, lay w L = lay w [.inr e] := by
 obtain ⟨e, he⟩ := lay_ex w L
 exact ⟨e, he⟩
theorem lay_in (w : World) (L1 L : List (Obj ⊕ Ext)) : ∃ d, lay w (L1 ++ L) = bw (lay w L) d := by
 induction L1 with
 | nil => exact ⟨noExt _, (bw_noExt _).symm⟩
 | cons x L1 ih =>
  obtain ⟨d, hd⟩ := ih
  cases x with
  | inl o =>
   obtain ⟨e, he⟩ := bw_of ((bw_below (lay w L) d).alloc (bw_le _ d) o)
   exact ⟨e, by show (lay w (L1 ++ L)).alloc o = _; rw [hd]; exact he⟩
  | inr e => exact ⟨_, by show bw (lay w (L1 ++ L)) e = _; rw [hd]; exact bw_bw _ _ _⟩
end Go.Proofs.YtcbicpbbjbkiaaaGreatDoor
namespace Go.Proofs.YtcbicpbbjbkiaaaGreatDoor
open Go.RowKit

structure RecT (α : Type) where
 E : TypeId
 S : TypeId
 k : Nat
 bytes : Nat
 enc : α → List Value
 wf : α → Prop
structure RecOk {α : Type} (R : RecT α) : Prop where
 len : ∀ x, (R.enc x).length = R.k
 one : ∀ x, ∀ u ∈ R.enc x, u.oneCell' = true
 pos : 0 < R.k
 und : Tryz.prog.underlying R.S = some (.slice R.E)
 info : ∃ i z, Tryz.prog.info? R.E = some i ∧ i.zero = some z ∧ i.size = R.k ∧ i.bytes = R.bytes ∧ z.cells.size = R.k
 small : R.bytes ≤ 1000
variable {α : Type} {R : RecT α}

theorem flat_len (hR : RecOk R) (l : List α) : (l.flatMap R.enc).length = l.length * R.k := by
 induction l with
 | nil => simp
 | cons x l ih => rw [List.flatMap_cons, List.length_append, hR.len, ih, List.length_cons, Nat.succ_mul, Nat.add_comm]
theorem flat_get (hR : RecOk R) : ∀ {l : List α} {i j : Nat} {x : α}, l[i]? = some x → j < R.k → (l.flatMap R.enc)[i * R.k + j]? = (R.enc x)[j]?
 | [], i, j, x, h, _ => by simp at h
 | y :: l, 0, j, x, h, hj => by
  simp only [List.getElem?_cons_zero, Option.some.injEq] at h
  subst h
  rw [List.flatMap_cons, List.getElem?_append_left (by rw [hR.len]; omega)]
  congr 1; omega
 | y :: l, i + 1, j, x, h, hj => by
  rw [List.getElem?_cons_succ] at h
  rw [List.flatMap_cons, List.getElem?_append_right (by rw [hR.len, Nat.succ_mul]; omega), hR.len]
  rw [show (i + 1) * R.k + j - R.k = i * R.k + j by rw [Nat.succ_mul]; omega]
  exact flat_get hR h hj
def SlG (R : RecT α) (w : World) (v : Value) (l : List α) : Prop :=
 ∃ a cap, v = .slice a l.length cap ∧ (l.length ≤ cap ∧ cap ≤ 9223372036854775807) ∧ (∀ x ∈ l, R.wf x) ∧
  (l ≠ [] → ∃ b o, a = some ⟨b, o, none⟩ ∧ b < w.heap.size ∧ ∀ (i : Nat) x, l[i]? = some x → ∀ (j : Nat) u, (R.enc x)[j]? = some u → w.cell? ⟨b, o + (i * R.k + j), none⟩ = some u)
theorem SlG.ext {w w' : World} {v : Value} {l : List α} (h : SlG R w v l) (hb : Below w.heap.size w w') : SlG R w' v l := by
 obtain ⟨a, cap, h1, h2, h0, h3⟩ := h
 refine ⟨a, cap, h1, h2, h0, fun hl => ?_⟩
 obtain ⟨b, o, h4, h5, h6⟩ := h3 hl
 exact ⟨b, o, h4, Nat.lt_of_lt_of_le h5 hb.size, fun i x hx j u hu => (hb.cell (p := ⟨b, o + (i * R.k + j), none⟩) h5).trans (h6 i x hx j u hu)⟩
theorem SlG.bw {w : World} {v : Value} {l : List α} (h : SlG R w v l) (d : Ext) : SlG R (bw w d) v l := h.ext (bw_below w d)
theorem SlG.lay {w : World} {v : Value} {l : List α} (h : SlG R w v l) (L : List (Obj ⊕ Ext)) : SlG R (lay w L) v l := h.ext (lay_extends w L)
theorem lay_appG (w : World) (A B : List (Obj ⊕ Ext)) : lay w (A ++ B) = lay (lay w B) A := by
 induction A with
 | nil => rfl
 | cons x A ih =>
  cases x with
  | inl o => exact congrArg (fun W => World.alloc W o) ih
  | inr d => exact congrArg (fun W => Go.Proofs.YtcbicpbbjbkiaaaGreatDoor.bw W d) ih
theorem lay_belowG {w : World} {A B : List (Obj ⊕ Ext)} : Below (lay w B).heap.size (lay w B) (lay w (A ++ B)) := by rw [lay_appG]; exact lay_extends _ _
theorem slG_on {w : World} {v : Value} {l : List α} {A B : List (Obj ⊕ Ext)} (h : SlG R (lay w B) v l) : SlG R (lay w (A ++ B)) v l := h.ext lay_belowG
theorem SlG.nil (R : RecT α) (w : World) : SlG R w (.slice none 0 0) [] := ⟨none, 0, rfl, by simp, fun _ h => absurd h (List.not_mem_nil), fun h => absurd rfl h⟩
theorem slG_none {w : World} {a : Option Addr} {c : Nat} (hc : c ≤ 9223372036854775807) : SlG R w (.slice a 0 c) [] := ⟨a, c, rfl, ⟨Nat.zero_le _, hc⟩, fun _ h => absurd h (List.not_mem_nil), fun h => absurd rfl h⟩
theorem SlG.open {w : World} {v : Value} {l : List α} (h : SlG R w v l) (hl : 0 < l.length) :
  ∃ b o cap, v = .slice (some ⟨b, o, none⟩) l.length cap ∧ (l.length ≤ cap ∧ cap ≤ 9223372036854775807) ∧ b < w.heap.size ∧ ∀ (i : Nat) x, l[i]? = some x → ∀ (j : Nat) u, (R.enc x)[j]? = some u → w.cell? ⟨b, o + (i * R.k + j), none⟩ = some u := by
 obtain ⟨a, cap, rfl, h2, _, h3⟩ := h
 obtain ⟨b, o, rfl, h5, h6⟩ := h3 (by intro e; rw [e] at hl; exact Nat.lt_irrefl 0 hl)
 exact ⟨b, o, cap, rfl, h2, h5, h6⟩
theorem SlG.wf {w : World} {v : Value} {l : List α} (h : SlG R w v l) : ∀ x ∈ l, R.wf x := by
 obtain ⟨_, _, _, _, h, _⟩ := h; exact h
theorem SlG.form {w : World} {v : Value} {l : List α} (h : SlG R w v l) : ∃ a cap, v = .slice a l.length cap := by
 obtain ⟨a, c, e, _⟩ := h; exact ⟨a, c, e⟩
theorem slG_cut {w : World} {b o n cap f k c : Nat} {l : List α} (h : SlG R w (.slice (some ⟨b, o, none⟩) n cap) l) (hf : f + k ≤ l.length) (hc : k ≤ c ∧ c ≤ 9223372036854775807) : SlG R w (.slice (some ⟨b, o + f * R.k, none⟩) k c) ((l.drop f).take k) := by
 have hl : ((l.drop f).take k).length = k := by rw [List.length_take, List.length_drop]; omega
 obtain ⟨a', cap', he, hcc, hwf, hcell⟩ := h
 simp only [Value.slice.injEq] at he
 obtain ⟨he, rfl, rfl⟩ := he
 refine ⟨_, c, by rw [hl], by rw [hl]; exact hc, fun x hx => hwf x (List.mem_of_mem_drop (List.mem_of_mem_take hx)), fun hne => ⟨b, o + f * R.k, rfl, ?_⟩⟩
 have hk : 0 < k := by rw [← hl]; exact List.length_pos_iff.2 hne
 obtain ⟨b', o', e, hb, hr⟩ := hcell (by intro e; rw [e] at hf; simp at hf; omega)
 rw [← he] at e
 cases e
 refine ⟨hb, fun i x hx j u hu => ?_⟩
 have hi : i < k := by
  have := (List.getElem?_eq_some_iff.1 hx).1
  rw [hl] at this; exact this
 rw [List.getElem?_take, if_pos hi, List.getElem?_drop] at hx
 have := hr _ x hx j u hu
 rw [Nat.add_mul] at this
 rw [Nat.add_assoc, ← Nat.add_assoc (f * R.k)]
 exact this

def OwG (R : RecT α) (w : World) (base : Nat) (v : Value) (l : List α) : Prop :=
 w.ownsRow base R.E R.k v l.length (l.flatMap R.enc) ∧ ∀ x ∈ l, R.wf x
theorem OwG.nil (R : RecT α) (w : World) (base : Nat) : OwG R w base (.slice none 0 0) [] := ⟨World.ownsRow_nil w base _ _, fun _ h => absurd h (List.not_mem_nil)⟩
theorem OwG.form {w : World} {base : Nat} {v : Value} {l : List α} (h : OwG R w base v l) : ∃ a cap, v = .slice a l.length cap := by
 rcases h.1.2 with ⟨rfl, hz⟩ | ⟨g, cap, cur, rfl, _⟩
 ·exact ⟨none, 0, by rw [hz]⟩
 ·exact ⟨_, cap, rfl⟩
theorem OwG.form1 {w : World} {base : Nat} {v : Value} {l : List α} (h : OwG R w base v l) (hl : 0 < l.length) : ∃ g cap, v = .slice (some ⟨g, 0, none⟩) l.length cap ∧ base ≤ g ∧ g < w.heap.size ∧ l.length ≤ cap ∧ cap ≤ 9223372036854775807 := by
 rcases h.1.2 with ⟨rfl, hz⟩ | ⟨g, cap, cur, rfl, h1, h2, h3, h4, _⟩
 ·omega
 ·have hM : maxLen = 9223372036854775807 := by decide
  exact ⟨g, cap, rfl, h1, (Array.getElem?_eq_some_iff.1 h2).1, h3, by omega⟩
theorem OwG.cell (hR : RecOk R) {w : World} {base g cap n : Nat} {l : List α} (h : OwG R w base (.slice (some ⟨g, 0, none⟩) n cap) l) {i j : Nat} {x : α} {u : Value} (hx : l[i]? = some x) (hu : (R.enc x)[j]? = some u) : w.cell? ⟨g, i * R.k + j, none⟩ = some u := by
  have hn : n = l.length := by
    obtain ⟨a, c, e⟩ := h.form
    cases e; rfl
  subst hn
  have hi := (List.getElem?_eq_some_iff.1 hx).1
  have hj : j < R.k := by have := (List.getElem?_eq_some_iff.1 hu).1; rw [hR.len] at this; exact this
  rw [h.1.cellAt _ (by have : (i + 1) * R.k ≤ l.length * R.k := Nat.mul_le_mul_right _ hi
                       rw [Nat.succ_mul] at this; omega), flat_get hR hx hj, hu]
theorem OwG.sl (hR : RecOk R) {w : World} {base : Nat} {v : Value} {l : List α} (h : OwG R w base v l) : SlG R w v l := by
 by_cases hl : l = []
 ·subst hl
  rcases h.1.2 with ⟨rfl, hz⟩ | ⟨g, cap, cur, rfl, _, _, h3, h4, _⟩
  ·exact SlG.nil R w
  ·have hM : maxLen = 9223372036854775807 := by decide
   exact ⟨_, cap, rfl, ⟨h3, by omega⟩, h.2, fun hne => absurd rfl hne⟩
 ·have hl' : 0 < l.length := List.length_pos_iff.2 hl
  obtain ⟨g, cap, rfl, h1, h2, h3⟩ := h.form1 hl'
  exact ⟨_, cap, rfl, h3, h.2, fun _ => ⟨g, 0, rfl, h2, fun i x hx j u hu => by rw [Nat.zero_add]; exact h.cell hR hx hu⟩⟩
theorem OwG.ext {w w' : World} {base : Nat} {v : Value} {l : List α} (h : OwG R w base v l) (hb : Below w.heap.size w w') : OwG R w' base v l := by
 refine ⟨⟨h.1.1, h.1.2.imp id ?_⟩, h.2⟩
 rintro ⟨g, cap, cur, e, h1, h2, h3⟩
 exact ⟨g, cap, cur, e, h1, (hb.block g (Array.getElem?_eq_some_iff.1 h2).1).trans h2, h3⟩
theorem OwG.bw {w : World} {base : Nat} {v : Value} {l : List α} (h : OwG R w base v l) (d : Ext) : OwG R (bw w d) base v l := h.ext (bw_below w d)
theorem OwG.le {w : World} {base base' : Nat} {v : Value} {l : List α} (h : OwG R w base v l) (hb : base' ≤ base) : OwG R w base' v l := ⟨⟨h.1.1, h.1.2.imp id fun ⟨g, cap, cur, e, h1, h2⟩ => ⟨g, cap, cur, e, Nat.le_trans hb h1, h2⟩⟩, h.2⟩
theorem owG_on {w : World} {base : Nat} {v : Value} {l : List α} {A B : List (Obj ⊕ Ext)} (h : OwG R (lay w B) base v l) : OwG R (lay w (A ++ B)) base v l := h.ext lay_belowG

theorem push_rec (hR : RecOk R) {ops : Array Oper} {rest : List Oper} {o : Oper} {a : Act} {Q : Exit → Act → World → Prop} (hgd : o.guard = none) (s x : Operand)
  (ho : o.op = .call { callee := .builtin .append, args := #[s, x], argTypes := #[R.S, R.S] })
  (W0 : World) (wb : World) (c : α) (cs : Array Value) (te : TypeId) (xb : Nat) (v : Value) (l : List α) (hw : Below W0.heap.size W0 wb) (hown : OwG R wb W0.heap.size v l)
  (hcell : wb.heap[xb]? = some (.cells cs te (0, 0))) (hcs : cs.toList = R.enc c) (hs : a.eval s = v) (hx : a.eval x = .slice (some ⟨xb, 0, none⟩) 1 1)
  (hn : l.length ≤ 1000000000) (hc : R.wf c)
  (h : ∀ v' d, OwG R (Go.Proofs.YtcbicpbbjbkiaaaGreatDoor.bw W0 d) W0.heap.size v' (l ++ [c]) → wpList Tryz.prog ops Q rest (a.put o.dst v') (Go.Proofs.YtcbicpbbjbkiaaaGreatDoor.bw W0 d)) :
  wpList Tryz.prog ops Q (o :: rest) a wb := by
 obtain ⟨i, z, hi, hz0, hz1, hz2, hz3⟩ := hR.info
 have hM : maxLen = 9223372036854775807 := by decide
 have hb := hR.small
 have hb2 : (l.length + 1) * R.bytes ≤ 1000000001 * 1000 := Nat.mul_le_mul (by omega) hb
 refine wpList_append_lies wb hgd s x R.S ho W0.heap.size R.E i z R.k R.bytes hR.und hi hz0 hz1 hz2 hz3 hR.pos v l.length (l.flatMap R.enc) hs hown.1 ⟨xb, 0, none⟩ 1 1 (R.enc c) hx (by rw [hR.len, Nat.one_mul]) (by rw [← hcs]; exact World.news_of_block hcell) (hR.one c) (by decide) (by omega) (by omega) hw.size wb.heap.size rfl ?_
 intro g cap w' hown' hg hat _
 obtain ⟨d, hd⟩ := bw_of (w := W0) (w' := w') (hw.grown hg hw.size (fun k hk => (hown.1.lt k hk).1))
 subst hd
 refine h _ d ⟨?_, fun y hy => ?_⟩
 ·rw [List.flatMap_append, List.length_append]
  simpa using hown'
 ·rcases List.mem_append.1 hy with hy | hy
  ·exact hown.2 y hy
  ·rw [List.mem_singleton.1 hy]; exact hc
theorem push_slG (hR : RecOk R) {ops : Array Oper} {rest : List Oper} {o : Oper} {a : Act} {Q : Exit → Act → World → Prop} (hgd : o.guard = none) (s x : Operand)
  (ho : o.op = .call { callee := .builtin .append, args := #[s, x], argTypes := #[R.S, R.S] })
  (W0 : World) (wb : World) (v1 : Value) (l1 : List α) (A : Option Addr) (n c : Nat) (l2 : List α) (hw : Below W0.heap.size W0 wb) (hown : OwG R wb W0.heap.size v1 l1)
  (hsrc : SlG R wb (.slice A n c) l2) (hA : A = none → c = 0) (hs : a.eval s = v1) (hx : a.eval x = .slice A n c) (hn : l1.length + l2.length ≤ 1000000000)
  (h : ∀ v' d, OwG R (Go.Proofs.YtcbicpbbjbkiaaaGreatDoor.bw W0 d) W0.heap.size v' (l1 ++ l2) → wpList Tryz.prog ops Q rest (a.put o.dst v') (Go.Proofs.YtcbicpbbjbkiaaaGreatDoor.bw W0 d)) :
  wpList Tryz.prog ops Q (o :: rest) a wb := by
 obtain ⟨i, z, hi, hz0, hz1, hz2, hz3⟩ := hR.info
 have hM : maxLen = 9223372036854775807 := by decide
 obtain ⟨a', cap', he, hcc, hwf, hcell⟩ := hsrc
 simp only [Value.slice.injEq] at he
 obtain ⟨rfl, rfl, rfl⟩ := he
 cases A with
 | none =>
  obtain rfl := hA rfl
  have hl2 : l2 = [] := by
   rcases List.eq_nil_or_concat l2 with h | ⟨_, _, h⟩
   ·exact h
   ·have : l2 ≠ [] := by rw [h]; simp
    obtain ⟨_, _, h, _⟩ := hcell this
    cases h
  subst hl2
  obtain ⟨d, rfl⟩ := bw_of hw
  refine wpList_append_own_none hgd s x R.S ho W0.heap.size R.E i R.k hR.und hi v1 l1.length (l1.flatMap R.enc) hs hown.1 hx ?_
  exact h v1 d (by rw [List.append_nil]; exact hown)
 | some ad =>
  have hb2 : (l1.length + l2.length) * R.bytes ≤ 1000000000 * 1000 := Nat.mul_le_mul hn hR.small
  refine wpList_append_own wb hgd s x R.S ho W0.heap.size R.E i z R.k R.bytes hR.und hi hz0 hz1 hz2 hz3 hR.pos v1 l1.length (l1.flatMap R.enc) hs hown.1 ad l2.length c (l2.flatMap R.enc) hx (flat_len hR l2) ?_ ?_ (by omega) (by omega) hw.size ?_
  ·intro j u hu
   have hj : j < l2.length * R.k := by have := (List.getElem?_eq_some_iff.1 hu).1; rw [flat_len hR] at this; exact this
   have hne : l2 ≠ [] := by intro e; rw [e] at hj; simp at hj
   obtain ⟨b, o', e, _, hr⟩ := hcell hne
   cases e
   have hq : j / R.k < l2.length := Nat.div_lt_of_lt_mul (by rw [Nat.mul_comm]; exact hj)
   have hm : j % R.k < R.k := Nat.mod_lt _ hR.pos
   have e1 : j = j / R.k * R.k + j % R.k := by rw [Nat.mul_comm]; exact (Nat.div_add_mod j R.k).symm
   have hx' : l2[j / R.k]? = some l2[j / R.k] := List.getElem?_eq_getElem hq
   rw [e1, flat_get hR hx' hm] at hu
   have h3 := hr _ _ hx' _ _ hu
   rw [← e1] at h3
   have hadd : (⟨b, o', none⟩ : Addr).add j = ⟨b, o' + j, none⟩ := by
    unfold Addr.add
    split
    ·rename_i h0
     have : j = 0 := by simpa using h0
     subst this; rfl
    ·rfl
   rw [hadd]
   exact h3
  ·intro u hu
   obtain ⟨y, _, hy⟩ := List.mem_flatMap.1 hu
   exact hR.one y u hy
  ·intro v' w' hown' hg _
   obtain ⟨d, hd⟩ := bw_of (w := W0) (w' := w') (hw.grown hg hw.size (fun k hk => (hown.1.lt k hk).1))
   subst hd
   refine h v' d ⟨by rw [List.length_append, List.flatMap_append]; exact hown', fun y hy => ?_⟩
   rcases List.mem_append.1 hy with hy | hy
   ·exact hown.2 y hy
   ·exact hwf y hy
theorem owG_empty (R : RecT α) {w : World} {L : List (Obj ⊕ Ext)} : OwG R (Go.Proofs.YtcbicpbbjbkiaaaGreatDoor.lay w (.inl (.cells #[] R.E (0, 0)) :: L)) (Go.Proofs.YtcbicpbbjbkiaaaGreatDoor.lay w L).heap.size (.slice (some ⟨posn w (shp L), 0, none⟩) 0 0) [] := by
 rw [← lay_size w L]
 exact ⟨World.ownsRow_lit (Go.Proofs.YtcbicpbbjbkiaaaGreatDoor.lay w L) #[] 0 (Nat.le_refl _) (by decide) (by simp), fun _ h => absurd h (List.not_mem_nil)⟩
theorem owG_lit (hR : RecOk R) {w : World} {L : List (Obj ⊕ Ext)} {cs : Array Value} (l : List α) (hc : cs.toList = l.flatMap R.enc) (hl : l.length ≤ 1000) (hw : ∀ x ∈ l, R.wf x) :
  OwG R (Go.Proofs.YtcbicpbbjbkiaaaGreatDoor.lay w (.inl (.cells cs R.E (0, 0)) :: L)) (Go.Proofs.YtcbicpbbjbkiaaaGreatDoor.lay w L).heap.size (.slice (some ⟨posn w (shp L), 0, none⟩) l.length l.length) l := by
 rw [← lay_size w L]
 refine ⟨?_, hw⟩
 have := World.ownsRow_lit (base := (Go.Proofs.YtcbicpbbjbkiaaaGreatDoor.lay w L).heap.size) (e := R.E) (size := R.k) (Go.Proofs.YtcbicpbbjbkiaaaGreatDoor.lay w L) cs l.length (Nat.le_refl _) (by unfold maxLen; omega) (by rw [← Array.length_toList, hc, flat_len hR])
 rw [hc] at this
 exact this
theorem bw_storeG {w : World} {d : Ext} {g i : Nat} {v : Value} (hg : w.heap.size ≤ g) : ∃ d', (Go.Proofs.YtcbicpbbjbkiaaaGreatDoor.bw w d).setCell ⟨g, i, none⟩ v = Go.Proofs.YtcbicpbbjbkiaaaGreatDoor.bw w d' := by
  refine bw_of ?_
  have h1 := bw_below w d
  refine ⟨h1.1, h1.2, h1.3, ?_, fun k hk => ?_⟩
  · rw [World.size_setCell]; exact h1.size
  · rw [heap_setCell_other _ ⟨g, i, none⟩ k v (by intro e; have : k = g := by simpa using e
                                                  omega)]
    exact h1.block k hk
end Go.Proofs.YtcbicpbbjbkiaaaGreatDoor
namespace Go.Proofs.YtcbicpbbjbkiaaaGreatDoor
theorem floor_neg {a b : Int} (hb : 1 ≤ b) (h : a.tmod b < 0) : a.tdiv b - 1 = a / b := by
 have h1 := Int.tmod_add_mul_tdiv a b
 have h2 : -b < a.tmod b := by have := Int.lt_tmod_of_pos a (by omega : 0 < b); omega
 symm
 rw [Int.ediv_eq_iff_of_pos (by omega), Int.sub_mul, Int.mul_comm (a.tdiv b) b]
 omega
theorem floor_pos {a b : Int} (hb : 1 ≤ b) (h : 0 ≤ a.tmod b) : a.tdiv b = a / b := by
 have h1 := Int.tmod_add_mul_tdiv a b
 have h2 : a.tmod b < b := Int.tmod_lt_of_pos a (by omega)
 symm
 rw [Int.ediv_eq_iff_of_pos (by omega), Int.mul_comm (a.tdiv b) b]
 omega
theorem ediv_bd {a b : Int} (hb : 1 ≤ b) (L : Int) (h0 : 0 ≤ L) (h1 : -L ≤ a) (h2 : a ≤ L) : -L ≤ a / b ∧ a / b ≤ L := by
 constructor
 ·rw [Int.le_ediv_iff_mul_le (by omega)]
  have : L * 1 ≤ L * b := Int.mul_le_mul_of_nonneg_left hb h0
  rw [Int.neg_mul]; omega
 ·rcases Int.lt_or_le a 0 with h | h
  ·have := Int.ediv_neg_of_neg_of_pos h (show 0 < b by omega); omega
  ·have := Int.ediv_le_self b h; omega
theorem tmod_wrap (n : Int) (c : Int) (hc : 1 ≤ c) : (n.tmod c < 0 → n.tmod c + c = n % c) ∧ (0 ≤ n.tmod c → n.tmod c = n % c) := by
 have h1 := Int.tmod_add_mul_tdiv n c
 have h2 := Int.emod_add_mul_ediv n c
 constructor
 ·intro h
  have := floor_neg hc h
  rw [← this, Int.mul_sub] at h2; omega
 ·intro h
  have := floor_pos hc h
  rw [← this] at h2; omega
theorem tmod_bd (n c : Int) (hc : 1 ≤ c) : -c < n.tmod c ∧ n.tmod c < c := by
 have := Int.lt_tmod_of_pos n (show 0 < c by omega)
 have := Int.tmod_lt_of_pos n (show 0 < c by omega)
 omega
set_option maxHeartbeats 1000000
open Go.RowKit

def letB (c : Int) : Bool := decide ((97 ≤ c ∧ c ≤ 122) ∨ (65 ≤ c ∧ c ≤ 90))
def digB (c : Int) : Bool := decide (48 ≤ c ∧ c ≤ 57)
def wrdB (c : Int) : Bool := letB c || digB c || c == 95
theorem letB_iff {c : Int} : letB c = true ↔ (97 ≤ c ∧ c ≤ 122) ∨ (65 ≤ c ∧ c ≤ 90) := by simp [letB]
theorem digB_iff {c : Int} : digB c = true ↔ 48 ≤ c ∧ c ≤ 57 := by simp [digB]
theorem dec_letter (c : Int) (w : World) (h0 : 0 ≤ c) (h1 : c ≤ 255) :
  Calls Tryz.prog 204 #[.int .u8 c] w fun e w' => e = .returned (.bool (letB c)) ∧ w' = w := by
 go_enter Tryz.func204, Tryz.ntmps204
 go_wp2
 all_goals go_ret
 all_goals exact ⟨ret_bool (by rw [Bool.eq_iff_iff, letB_iff]; simp; omega), rfl⟩
theorem dec_digit (c : Int) (w : World) (h0 : 0 ≤ c) (h1 : c ≤ 255) :
  Calls Tryz.prog 258 #[.int .u8 c] w fun e w' => e = .returned (.bool (digB c)) ∧ w' = w := by
 go_enter Tryz.func258, Tryz.ntmps258
 go_wp2
 all_goals go_ret
 all_goals exact ⟨ret_bool (by rw [Bool.eq_iff_iff, digB_iff]; simp; omega), rfl⟩
theorem dec_word (c : Int) (w : World) (h0 : 0 ≤ c) (h1 : c ≤ 255) :
  Calls Tryz.prog 203 #[.int .u8 c] w fun e w' => e = .returned (.bool (wrdB c)) ∧ w' = w := by
 go_enter Tryz.func203, Tryz.ntmps203
 go_wp2_with (first | (go_at_call 204; refine (dec_letter _ _ h0 h1).mono ?_; rintro e w' ⟨rfl, rfl⟩) | (go_at_call 258; refine (dec_digit _ _ h0 h1).mono ?_; rintro e w' ⟨rfl, rfl⟩))
 all_goals go_ret
 all_goals exact ⟨ret_bool (by simp [wrdB, *]), rfl⟩
def bt (s : ByteArray) (i : Nat) : Int := ((s.data.toList.getD i 0).toNat : Int)
theorem bt_get {s : ByteArray} {i : Nat} (h : i < s.size) : ((s[i]'h).toNat : Int) = bt s i := by
 unfold bt
 rw [List.getD_eq_getElem?_getD, List.getElem?_eq_getElem (by simpa using h)]
 rfl
theorem bt_bd (s : ByteArray) (i : Nat) : 0 ≤ bt s i ∧ bt s i ≤ 255 := by
 unfold bt
 have := (s.data.toList.getD i 0).toNat_lt
 omega
def AllW (s : ByteArray) (k : Nat) : Prop := ∀ i, i < k → wrdB (bt s i) = true
structure Name (s : ByteArray) : Prop where
 len : s.size ≤ 20
 pos : 0 < s.size
 all : AllW s s.size
 hd : letB (bt s 0) = true
noncomputable def nameB (s : ByteArray) : Bool := @decide (Name s) (Classical.propDecidable _)
theorem nameB_iff {s : ByteArray} : nameB s = true ↔ Name s := by unfold nameB; simp
theorem nameB_no {s : ByteArray} (h : ¬ Name s) : false = nameB s := by cases e : nameB s; rfl; exact absurd (nameB_iff.1 e) h
theorem nameB_yes {s : ByteArray} (h : Name s) : true = nameB s := (nameB_iff.2 h).symm
noncomputable def allwB (s : ByteArray) : Bool := @decide (0 < s.size ∧ AllW s s.size) (Classical.propDecidable _)
theorem allwB_iff {s : ByteArray} : allwB s = true ↔ 0 < s.size ∧ AllW s s.size := by unfold allwB; simp
theorem allwB_no {s : ByteArray} (h : ¬ (0 < s.size ∧ AllW s s.size)) : false = allwB s := by cases e : allwB s; rfl; exact absurd (allwB_iff.1 e) h
theorem str_all {s : ByteArray} (h : AllW s s.size) : (!s.toList.isEmpty) = allwB s := by
 rw [Bool.eq_iff_iff, allwB_iff, ByteArray.toList_eq]
 have e : s.size = s.data.toList.length := by simp
 rw [Bool.not_eq_true', List.isEmpty_eq_false_iff]
 constructor
 ·intro h1; exact ⟨by rw [e]; exact List.length_pos_iff.2 h1, h⟩
 ·intro h1 h2; rw [h2, List.length_nil] at e; have := h1.1; omega
theorem dec_all (s : ByteArray) (w : World) (hs : s.size ≤ 9223372036854775807) :
  Calls Tryz.prog 202 #[.string s, .func (.func 203) #[] #[]] w fun e w' => e = .returned (.bool (allwB s)) ∧ w' = w := by
 go_enter Tryz.func202, Tryz.ntmps202
 go_wp2_with fail
 go_loop [8] (fun i => ∃ k : Nat, k ≤ s.size ∧ i = .int .i64 k ∧ AllW s k) (fun i => s.size - (intOf i).toNat)
 case atStart => exact ⟨0, Nat.zero_le _, rfl, fun i hi => absurd hi (Nat.not_lt_zero i)⟩
 case round =>
  obtain ⟨k, hk, rfl, hA⟩ := hrel
  have HA := Lib.hid hA
  clear hA
  by_cases hlt : k < s.size
  ·have e := bt_get hlt
   have b := bt_bd s k
   cases hw : wrdB (bt s k)
   ·have HN : Hid (false = allwB s) := Lib.hid (allwB_no fun h => by have := h.2 k hlt; rw [hw] at this; cases this)
    go_wp2_with (go_at_call 203; refine (dec_word _ _ (by omega) (by omega)).mono ?_; rintro e w' ⟨rfl, rfl⟩)
    go_ret
    exact ⟨ret_bool HN.out, rfl⟩
   ·have HN := Lib.hid hw
    go_wp2_with (go_at_call 203; refine (dec_word _ _ (by omega) (by omega)).mono ?_; rintro e w' ⟨rfl, rfl⟩)
    go_round
    case rel => exact ⟨k + 1, by omega, by go_num, fun i hi => by
     by_cases e : i = k
     ·subst e; exact HN.out
     ·exact HA.out i (by omega)⟩
    case measure => simp [intOf]; omega
  ·obtain rfl : k = s.size := by omega
   have HN : Hid ((!s.toList.isEmpty) = allwB s) := Lib.hid (str_all HA.out)
   go_wp2
   go_ret
   exact ⟨ret_bool HN.out, rfl⟩
theorem dec_IsName (s : ByteArray) (w : World) (hs : s.size ≤ 9223372036854775807) :
  Calls Tryz.prog 119 #[.string s] w fun e w' => e = .returned (.bool (nameB s)) ∧ w' = w := by
 by_cases h20 : s.size ≤ 20
 ·cases ha : allwB s
  ·have HN : Hid (false = nameB s) := Lib.hid (nameB_no fun h => by have := allwB_iff.2 ⟨h.pos, h.all⟩; rw [ha] at this; cases this)
   go_enter Tryz.func119, Tryz.ntmps119
   go_wp2_with (go_at_call 202; refine (dec_all s _ hs).mono ?_; rintro e w' ⟨rfl, rfl⟩)
   go_ret
   exact ⟨ret_bool HN.out, rfl⟩
  ·obtain ⟨p, q⟩ := allwB_iff.1 ha
   have e := bt_get p
   have b := bt_bd s 0
   obtain ⟨b0, b1⟩ := b
   cases hl : letB (bt s 0)
   ·have HN : Hid (false = nameB s) := Lib.hid (nameB_no fun h => by have := h.hd; rw [hl] at this; cases this)
    clear q
    go_enter Tryz.func119, Tryz.ntmps119
    go_wp2_with (first | (go_at_call 202; refine (dec_all s _ hs).mono ?_; rintro e w' ⟨rfl, rfl⟩) | (go_at_call 204; refine (dec_letter _ _ (by omega) (by omega)).mono ?_; rintro e w' ⟨rfl, rfl⟩))
    go_ret
    exact ⟨ret_bool HN.out, rfl⟩
   ·have HN : Hid (true = nameB s) := Lib.hid (nameB_yes ⟨h20, p, q, hl⟩)
    clear q
    go_enter Tryz.func119, Tryz.ntmps119
    go_wp2_with (first | (go_at_call 202; refine (dec_all s _ hs).mono ?_; rintro e w' ⟨rfl, rfl⟩) | (go_at_call 204; refine (dec_letter _ _ (by omega) (by omega)).mono ?_; rintro e w' ⟨rfl, rfl⟩))
    go_ret
    exact ⟨ret_bool HN.out, rfl⟩
 ·have HN : Hid (false = nameB s) := Lib.hid (nameB_no fun h => h20 h.len)
  go_enter Tryz.func119, Tryz.ntmps119
  go_wp2
  go_ret
  exact ⟨ret_bool HN.out, rfl⟩
end Go.Proofs.YtcbicpbbjbkiaaaGreatDoor
namespace Go.Proofs.YtcbicpbbjbkiaaaGreatDoor
open Go.RowKit

structure StarV where
 s : ByteArray
 sha : Int
 dec : Int
 mag : Int
def stR : RecT StarV := { E := 132, S := 125, k := 4, bytes := 40, enc := fun x => [.string x.s, .int .i64 x.sha, .int .i64 x.dec, .int .i64 x.mag], wf := fun x => x.s.size ≤ 9223372036854775807 ∧ (Lit.int .i64 x.sha).wf = true ∧ (Lit.int .i64 x.dec).wf = true ∧ (Lit.int .i64 x.mag).wf = true }
theorem info_st : (Tryz.prog.info? 132).map (fun i => (i.zero.map (fun z => z.cells.size), i.size, i.bytes)) = some (some 4, 4, 40) := by kernel_rfl
theorem recInfo {E : TypeId} {k b : Nat} (h : (Tryz.prog.info? E).map (fun i => (i.zero.map (fun z => z.cells.size), i.size, i.bytes)) = some (some k, k, b)) : ∃ i z, Tryz.prog.info? E = some i ∧ i.zero = some z ∧ i.size = k ∧ i.bytes = b ∧ z.cells.size = k := by
 cases hi : Tryz.prog.info? E with
 | none => rw [hi] at h; cases h
 | some i =>
  rw [hi] at h
  simp only [Option.map_some, Option.some.injEq, Prod.mk.injEq] at h
  obtain ⟨h1, h2, h3⟩ := h
  cases hz : i.zero with
  | none => rw [hz] at h1; cases h1
  | some z =>
   rw [hz] at h1
   simp only [Option.map_some, Option.some.injEq] at h1
   exact ⟨i, z, rfl, hz, h2, h3, h1⟩
theorem stOk : RecOk stR where
 len _ := rfl
 one x u hu := by
  simp only [stR, List.mem_cons, List.not_mem_nil, or_false] at hu
  rcases hu with rfl | rfl | rfl | rfl <;> rfl
 pos := by decide
 und := Tryz.underlying125
 info := recInfo info_st
 small := by decide
theorem slG_get {α : Type} {R : RecT α} {w : World} {b o n c : Nat} {l : List α} (h : SlG R w (.slice (some ⟨b, o, none⟩) n c) l) {i : Nat} {x : α} (hx : l[i]? = some x) {j : Nat} {u : Value} (hu : (R.enc x)[j]? = some u) : w.cell? ⟨b, o + (i * R.k + j), none⟩ = some u := by
 have hl : 0 < l.length := by have := (List.getElem?_eq_some_iff.1 hx).1; omega
 obtain ⟨b', o', c', e, _, _, hr⟩ := h.open hl
 cases e
 exact hr i x hx j u hu

def idxR {α : Type} (p : α → Bool) : List α → Nat → Int
 | [], _ => -1
 | x :: l, k => if p x then (k : Int) else idxR p l (k + 1)
theorem idxR_any {α : Type} (p : α → Bool) : ∀ (l : List α) (k : Nat), decide (0 ≤ idxR p l k) = l.any p
 | [], _ => rfl
 | x :: l, k => by
  unfold idxR
  rw [List.any_cons, ← idxR_any p l (k + 1)]
  cases p x
  ·simp
  ·simp
theorem idxR_miss {α : Type} {p : α → Bool} {l : List α} {k : Nat} {x : α} (hx : l[k]? = some x) (h : p x = false) (e : idxR p l 0 = idxR p (l.drop k) k) : idxR p l 0 = idxR p (l.drop (k + 1)) (k + 1) := by
 obtain ⟨hk, rfl⟩ := List.getElem?_eq_some_iff.1 hx
 rw [e, List.drop_eq_getElem_cons hk]
 show (if p l[k] then (k : Int) else _) = _
 rw [h]; rfl
theorem idxR_got {α : Type} {p : α → Bool} {l : List α} {k : Nat} {x : α} (hx : l[k]? = some x) (h : p x = true) (e : idxR p l 0 = idxR p (l.drop k) k) : (k : Int) = idxR p l 0 := by
 obtain ⟨hk, rfl⟩ := List.getElem?_eq_some_iff.1 hx
 rw [e, List.drop_eq_getElem_cons hk]
 show _ = (if p l[k] then (k : Int) else _)
 rw [h]; rfl
theorem idxR_end {α : Type} {p : α → Bool} {l : List α} {k : Nat} (hk : l.length ≤ k) (e : idxR p l 0 = idxR p (l.drop k) k) : (-1 : Int) = idxR p l 0 := by
 rw [e, List.drop_of_length_le hk]; rfl

def IdxPost (w : World) (x : Int) (e : Ending) (w' : World) : Prop := e = .returned (.int .i64 x) ∧ ∃ d, w' = bw w d
set_option maxHeartbeats 1000000 in
theorem st_IndexFunc (g : FuncId) (lb : List Value) (p : StarV → Bool) (v : Value) (l : List StarV) (w : World) (hv : SlG stR w v l)
  (eI : ∀ args w, (callFunc g args).run Tryz.prog w = .ok (.enter g args) w)
  (hf : ∀ x ∈ l, ∀ d, Calls Tryz.prog g (.agg (stR.enc x).toArray :: lb).toArray (bw w d) fun e w' => e = .returned (.bool (p x)) ∧ ∃ d, w' = bw w d) :
  Calls Tryz.prog 130 #[v, .func (.func g) #[] lb.toArray] w (IdxPost w (idxR p l 0)) := by
 by_cases hz : l = []
 ·subst hz
  obtain ⟨a, cap, rfl⟩ := hv.form
  clear hf
  refine lay_start ?_
  go_enter Tryz.func130, Tryz.ntmps130
  go_wp2_with fail
  refine wp_loop_rounds 1 ?_
  rw [rounds_succ]
  go_wp2
  go_ret
  exact ⟨rfl, lay_ex _ _⟩
 ·obtain ⟨b, o, cap, rfl, hc, hb, hr⟩ := hv.open (List.length_pos_iff.2 hz)
  obtain ⟨m, hm⟩ : ∃ m, l.length = m := ⟨_, rfl⟩
  have HF := Lib.hid hf
  have HM := Lib.hid hm
  rw [hm] at hc ⊢
  have HR : Hid (∀ i x, l[i]? = some x → w.cell? ⟨b, o + i * 4, none⟩ = some (.string x.s) ∧ w.cell? ⟨b, o + i * 4 + 1, none⟩ = some (.int .i64 x.sha) ∧ w.cell? ⟨b, o + i * 4 + 2, none⟩ = some (.int .i64 x.dec) ∧ w.cell? ⟨b, o + i * 4 + 3, none⟩ = some (.int .i64 x.mag)) :=
   Lib.hid (fun i x hx => ⟨hr i x hx 0 _ rfl, hr i x hx 1 _ rfl, hr i x hx 2 _ rfl, hr i x hx 3 _ rfl⟩)
  clear hf hz hm hr hv
  refine lay_start ?_
  go_enter Tryz.func130, Tryz.ntmps130
  go_wp2_with fail
  go_loopw [8] (fun i wr => ∃ (k : Nat) (d : Ext), k ≤ m ∧ i = .int .i64 k ∧ wr = lay w [.inr d] ∧ idxR p l 0 = idxR p (l.drop k) k) (fun i _ => m - (intOf i).toNat)
  case atStart => exact ⟨0, noExt _, Nat.zero_le _, rfl, (bw_noExt _).symm, rfl⟩
  case round =>
   obtain ⟨k, d, hk, rfl, rfl, hA⟩ := hrel
   have HA := Lib.hid hA
   clear hA
   by_cases hlt : k < m
   ·obtain ⟨x, hx⟩ : ∃ x, l[k]? = some x := ⟨_, List.getElem?_eq_getElem (by rw [HM.out]; exact hlt)⟩
    obtain ⟨e0, e1, e2, e3⟩ := HR.out k x hx
    have H1 : Hid (Calls Tryz.prog g (.agg #[.string x.s, .int .i64 x.sha, .int .i64 x.dec, .int .i64 x.mag] :: lb).toArray (lay w [.inr d]) fun e w' => e = .returned (.bool (p x)) ∧ ∃ d, w' = bw w d) := Lib.hid (HF.out x (List.mem_of_getElem? hx) d)
    cases ho : p x
    ·have HN := Lib.hid (idxR_miss hx ho HA.out)
     rw [ho] at H1
     clear ho hx
     obtain ⟨xs, x1, x2, x3⟩ := x
     dsimp only at e0 e1 e2 e3 H1
     go_wp2_with (refine H1.out.mono ?_; rintro e w' ⟨rfl, d1, rfl⟩)
     go_roundw
     case rel => exact ⟨k + 1, d1, by omega, by go_num, rfl, HN.out⟩
     case measure => simp [intOf]; omega
    ·have HN := Lib.hid (idxR_got hx ho HA.out)
     rw [ho] at H1
     clear ho hx
     obtain ⟨xs, x1, x2, x3⟩ := x
     dsimp only at e0 e1 e2 e3 H1
     go_wp2_with (refine H1.out.mono ?_; rintro e w' ⟨rfl, d1, rfl⟩)
     go_ret
     exact ⟨ret_int HN.out, d1, rfl⟩
   ·have HN := Lib.hid (idxR_end (k := k) (by rw [HM.out]; omega) HA.out)
    go_wp2
    go_ret
    exact ⟨ret_int HN.out, lay_ex _ _⟩
def bR : RecT Int := { E := 5, S := 68, k := 1, bytes := 1, enc := fun x => [.int .u8 x], wf := fun x => 0 ≤ x ∧ x < 256 }
theorem info_u8 : (Tryz.prog.info? 5).map (fun i => (i.zero.map (fun z => z.cells.size), i.size, i.bytes)) = some (some 1, 1, 1) := by kernel_rfl
theorem bOk : RecOk bR where
 len _ := rfl
 one x u hu := by
  simp only [bR, List.mem_cons, List.not_mem_nil, or_false] at hu
  rcases hu with rfl
  rfl
 pos := by decide
 und := Tryz.underlying68
 info := recInfo info_u8
 small := by decide
end Go.Proofs.YtcbicpbbjbkiaaaGreatDoor
namespace Go.Proofs.YtcbicpbbjbkiaaaGreatDoor

def isBy (l : List Int) : Prop := ∀ x ∈ l, 0 ≤ x ∧ x < 256
def be4 (n : Int) : List Int := [n / 16777216 % 256, n / 65536 % 256, n / 256 % 256, n % 256]
theorem be4_len (n : Int) : (be4 n).length = 4 := rfl
theorem be4_by (n : Int) : isBy (be4 n) := by
 intro x hx
 simp only [be4, List.mem_cons, List.not_mem_nil, or_false] at hx
 rcases hx with rfl | rfl | rfl | rfl <;> omega
def rd4 (l : List Int) : Int := match l with
 | a :: b :: c :: d :: _ => a * 16777216 + b * 65536 + c * 256 + d
 | _ => 0
theorem rd4_bd {l : List Int} (h : isBy l) : 0 ≤ rd4 l ∧ rd4 l < 4294967296 := by
 unfold rd4
 split
 ·rename_i a b c d t
  have ha := h a (by simp)
  have hb := h b (by simp)
  have hc := h c (by simp)
  have hd := h d (by simp)
  omega
 ·omega
def sumS (s c : Int) : Int := (31 * s + c + 1) % 4294967296
def sumF (l : List Int) : Int := l.foldl sumS 7
theorem sumS_bd (s c : Int) : 0 ≤ sumS s c ∧ sumS s c < 4294967296 := by unfold sumS; omega
theorem fold_bd : ∀ (l : List Int) (s : Int), 0 ≤ s → s < 4294967296 → 0 ≤ l.foldl sumS s ∧ l.foldl sumS s < 4294967296
 | [], _, h0, h1 => ⟨h0, h1⟩
 | c :: l, s, _, _ => fold_bd l _ (sumS_bd s c).1 (sumS_bd s c).2
theorem sumF_bd (l : List Int) : 0 ≤ sumF l ∧ sumF l < 4294967296 := fold_bd l 7 (by decide) (by decide)
def hdF (l : List Int) : List Int := be4 l.length ++ l
def frF (l : List Int) : List Int := hdF l ++ be4 (sumF (hdF l))
theorem hdF_len (l : List Int) : (hdF l).length = l.length + 4 := by unfold hdF; rw [List.length_append, be4_len]; omega
theorem frF_len (l : List Int) : (frF l).length = l.length + 8 := by unfold frF; rw [List.length_append, hdF_len, be4_len]
def recF (b : List Int) : Option (List Int × List Int) :=
 if b.length < 8 then none else
 if 65535 < rd4 b then none else
 if (b.length : Int) < rd4 b + 8 then none else
 if rd4 (b.drop (4 + (rd4 b).toNat)) ≠ sumF (b.take (4 + (rd4 b).toNat)) then none else
 some ((b.drop 4).take (rd4 b).toNat, b.drop (8 + (rd4 b).toNat))
theorem recF_len {b r t : List Int} (h : recF b = some (r, t)) : t.length + 8 ≤ b.length ∧ r.length ≤ 65535 ∧ t.length + r.length + 8 = b.length := by
 unfold recF at h
 split at h
 ·cases h
 ·split at h
  ·cases h
  ·split at h
   ·cases h
   ·split at h
    ·cases h
    ·simp only [Option.some.injEq, Prod.mk.injEq] at h
     obtain ⟨h1, h2⟩ := h
     have l1 : r.length = (rd4 b).toNat := by rw [← h1, List.length_take, List.length_drop]; omega
     have l2 : t.length = b.length - (8 + (rd4 b).toNat) := by rw [← h2, List.length_drop]
     omega
def recsF : Nat → List Int → List (List Int)
 | 0, _ => []
 | f + 1, b => match recF b with
  | none => []
  | some (r, t) => r :: recsF f t
def endsF : Nat → Nat → List Int → List Int
 | 0, _, _ => []
 | f + 1, n, b => match recF b with
  | none => []
  | some (_, t) => ((n : Int) - t.length) :: endsF f n t
theorem recsF_none {f : Nat} {b : List Int} (h : recF b = none) : recsF f b = [] := by cases f <;> simp [recsF, h]
theorem recsF_some {f : Nat} {b r t : List Int} (h : recF b = some (r, t)) : recsF (f + 1) b = r :: recsF f t := by simp [recsF, h]
theorem endsF_none {f n : Nat} {b : List Int} (h : recF b = none) : endsF f n b = [] := by cases f <;> simp [endsF, h]
theorem endsF_some {f n : Nat} {b r t : List Int} (h : recF b = some (r, t)) : endsF (f + 1) n b = ((n : Int) - t.length) :: endsF f n t := by simp [endsF, h]
theorem recsF_fuel : ∀ (f : Nat) (b : List Int), b.length ≤ f → ∀ g, b.length ≤ g → recsF f b = recsF g b
 | 0, b, h, g, _ => by
  have h0 : recF b = none := by unfold recF; rw [if_pos (by omega)]
  rw [recsF_none h0, recsF_none h0]
 | f + 1, b, h, g, hg => by
  cases h0 : recF b with
  | none => rw [recsF_none h0, recsF_none h0]
  | some p =>
   obtain ⟨r, t⟩ := p
   obtain ⟨k1, -, -⟩ := recF_len h0
   cases g with
   | zero => omega
   | succ g => rw [recsF_some h0, recsF_some h0, recsF_fuel f t (by omega) g (by omega)]
theorem endsF_fuel : ∀ (f n : Nat) (b : List Int), b.length ≤ f → ∀ g, b.length ≤ g → endsF f n b = endsF g n b
 | 0, n, b, h, g, _ => by
  have h0 : recF b = none := by unfold recF; rw [if_pos (by omega)]
  rw [endsF_none h0, endsF_none h0]
 | f + 1, n, b, h, g, hg => by
  cases h0 : recF b with
  | none => rw [endsF_none h0, endsF_none h0]
  | some p =>
   obtain ⟨r, t⟩ := p
   obtain ⟨k1, -, -⟩ := recF_len h0
   cases g with
   | zero => omega
   | succ g => rw [endsF_some h0, endsF_some h0, endsF_fuel f n t (by omega) g (by omega)]
def recL (b : List Int) : List (List Int) := recsF b.length b
def endL (b : List Int) : List Int := 0 :: endsF b.length b.length b
set_option maxHeartbeats 2000000
open Go.RowKit

def RwB (w : World) (l : List Int) (e : Ending) (w' : World) : Prop := ∃ v d, e = .returned v ∧ w' = bw w d ∧ OwG bR (bw w d) w.heap.size v l
theorem rwB_of {w W : World} {v : Value} {l : List Int} (hW : ∃ d, W = bw w d) (h : OwG bR W w.heap.size v l) : RwB w l (.returned v) W := by
 obtain ⟨d, rfl⟩ := hW
 exact ⟨v, d, rfl, rfl, h⟩
theorem slB_by {w : World} {v : Value} {l : List Int} (h : SlG bR w v l) : isBy l := fun x hx => h.wf x hx
theorem slB_cell {w : World} {b o n cap i : Nat} {l : List Int} (h : SlG bR w (.slice (some ⟨b, o, none⟩) n cap) l) {x : Int} (hx : l[i]? = some x) : w.cell? ⟨b, o + i, none⟩ = some (.int .u8 x) := by
 obtain ⟨a', cap', he, -, -, hc⟩ := h
 obtain ⟨b', o', e, -, hr⟩ := hc (by intro e; rw [e] at hx; simp at hx)
 cases he
 cases e
 have := hr i x hx 0 (.int .u8 x) rfl
 rwa [show i * bR.k + 0 = i from by show i * 1 + 0 = i; omega] at this
theorem slB_open {w : World} {v : Value} {l : List Int} (h : SlG bR w v l) (hl : 0 < l.length) : ∃ b o cap, v = .slice (some ⟨b, o, none⟩) l.length cap ∧ (l.length ≤ cap ∧ cap ≤ 9223372036854775807) ∧ b < w.heap.size := by
 obtain ⟨b, o, cap, h1, h2, h3, -⟩ := h.open hl
 exact ⟨b, o, cap, h1, h2, h3⟩
theorem jn_number (n : Int) (h0 : 0 ≤ n) (h1 : n < 4294967296) (w : World) :
  Calls Tryz.prog 225 #[.int .u32 n] w (RwB w (be4 n)) := by
 refine lay_start ?_
 go_enter Tryz.func225, Tryz.ntmps225
 go_wp2_with fail
 have e1 : n / 16777216 % 256 = n / 16777216 := Int.emod_eq_of_lt (by omega) (by omega)
 exact bodyPost_ret (v := .slice (some ⟨posn w [], 0, none⟩) 4 4) (by simp [results, Tryz.results225, go_sem]) rfl (rwB_of (lay_ex _ _) (owG_lit bOk (w := w) (L := []) (be4 n) (by simp [be4, bR, e1]) (by rw [be4_len]; decide) (be4_by n)))
theorem sum_step {l : List Int} {j : Nat} {x : Int} (h : l[j]? = some x) : (l.take (j + 1)).foldl sumS 7 = sumS ((l.take j).foldl sumS 7) x := by
 rw [List.take_add_one, h, List.foldl_append]; rfl
theorem jn_sum (v : Value) (l : List Int) (w : World) (hv : SlG bR w v l) (hl : l.length ≤ 10000000) :
  Calls Tryz.prog 224 #[v] w fun e w' => e = .returned (.int .u32 (sumF l)) ∧ w' = w := by
 have HV := Lib.hid hv
 obtain ⟨a, c, rfl⟩ := hv.form
 obtain ⟨m, hm⟩ : ∃ m, m = l.length := ⟨_, rfl⟩
 have HM := Lib.hid hm
 have HC : Hid (∀ j x, l[j]? = some x → ∃ b o, a = some ⟨b, o, none⟩ ∧ w.cell? ⟨b, o + j, none⟩ = some (.int .u8 x)) := Lib.hid (fun j x hx => by
  obtain ⟨b, o, cap, h1, -, -⟩ := slB_open hv (by have := (List.getElem?_eq_some_iff.1 hx).1; omega)
  cases h1
  exact ⟨b, o, rfl, slB_cell hv hx⟩)
 rw [← hm] at hl ⊢
 clear hv hm
 go_enter Tryz.func224, Tryz.ntmps224
 go_wp2_with fail
 go_loop [3, 8] (fun v3 v8 => ∃ j : Nat, j ≤ m ∧ v3 = .int .u32 ((l.take j).foldl sumS 7) ∧ v8 = .int .i64 (j : Int)) (fun _ v8 => m - (intOf v8).toNat)
 case atStart => exact ⟨0, Nat.zero_le _, rfl, rfl⟩
 case round =>
  obtain ⟨j, hj, rfl, rfl⟩ := hrel
  by_cases hlt : j < m
  ·obtain ⟨x, hx⟩ : ∃ x, l[j]? = some x := ⟨_, List.getElem?_eq_getElem (by rw [← HM.out]; exact hlt)⟩
   obtain ⟨b, o, rfl, hc⟩ := HC.out j x hx
   have hb := slB_by HV.out x (List.mem_of_getElem? hx)
   have HX := Lib.hid (sum_step hx)
   have HF := Lib.hid (fold_bd (l.take j) 7 (by decide) (by decide))
   obtain ⟨s, hs⟩ : ∃ s, (l.take j).foldl sumS 7 = s := ⟨_, rfl⟩
   rw [hs] at HX HF ⊢
   clear hx hs
   go_wp2_with fail
   refine ⟨⟨j + 1, by omega, ?_, by go_num⟩, by simp [intOf]; omega⟩
   rw [HX.out]
   unfold sumS
   congr 1
   omega
  ·obtain rfl : j = m := by omega
   have e : (l.take j).foldl sumS 7 = sumF l := by rw [HM.out, List.take_length]; rfl
   rw [e]
   go_wp2_with fail
   exact bodyPost_ret (v := .int .u32 (sumF l)) (by simp [results, Tryz.results224, go_sem]) rfl ⟨rfl, rfl⟩
theorem orJ_add {a b : Int} (i : Nat) (h0 : 0 ≤ a) (h1 : a < 4294967296) (hm : a % 2 ^ i = 0) (k0 : 0 ≤ b) (k1 : b < 2 ^ i) (k2 : b < 4294967296) : bits .or .u32 a b = a + b := by
 rw [u32_or a b h0 h1 k0 k2]
 obtain ⟨q, hq⟩ := Int.dvd_of_emod_eq_zero hm
 have hp : (0 : Int) < 2 ^ i := Int.pow_pos (by decide)
 have hq0 : 0 ≤ q := by
  rcases Int.lt_or_le q 0 with g | g
  ·have := Int.mul_le_mul_of_nonneg_left (show q ≤ -1 by omega) (Int.le_of_lt hp)
   rw [← hq] at this; omega
  ·exact g
 have ea : a.toNat = 2 ^ i * q.toNat := by
  have h : (a.toNat : Int) = ((2 ^ i * q.toNat : Nat) : Int) := by
   rw [Int.toNat_of_nonneg h0, Int.natCast_mul, Int.natCast_pow, Int.toNat_of_nonneg hq0, hq]; rfl
  exact Int.ofNat.inj h
 have hb : b.toNat < 2 ^ i := by
  have h : (b.toNat : Int) < ((2 ^ i : Nat) : Int) := by rw [Int.toNat_of_nonneg k0, Int.natCast_pow]; exact k1
  exact Int.ofNat_lt.1 h
 rw [ea, ← Nat.two_pow_add_eq_or_of_lt hb, ← ea]
 omega
theorem orJ_four {a b c d : Int} (ha : 0 ≤ a ∧ a < 256) (hb : 0 ≤ b ∧ b < 256) (hc : 0 ≤ c ∧ c < 256) (hd : 0 ≤ d ∧ d < 256) :
  bits .or .u32 (bits .or .u32 (bits .or .u32 (a * 16777216) (b * 65536)) (c * 256)) d = a * 16777216 + b * 65536 + c * 256 + d := by
 have h1 := orJ_add (a := a * 16777216) (b := b * 65536) 24 (by omega) (by omega) (by omega) (by omega) (by omega) (by omega)
 have h2 := orJ_add (a := a * 16777216 + b * 65536) (b := c * 256) 16 (by omega) (by omega) (by omega) (by omega) (by omega) (by omega)
 have h3 := orJ_add (a := a * 16777216 + b * 65536 + c * 256) (b := d) 8 (by omega) (by omega) (by omega) (by omega) (by omega) (by omega)
 rw [h1, h2, h3]
theorem rd4_get {l : List Int} {a b c d : Int} (h0 : l[0]? = some a) (h1 : l[1]? = some b) (h2 : l[2]? = some c) (h3 : l[3]? = some d) : rd4 l = a * 16777216 + b * 65536 + c * 256 + d := by
 match l, h0, h1, h2, h3 with
 | x0 :: x1 :: x2 :: x3 :: t, h0, h1, h2, h3 =>
  simp at h0 h1 h2 h3
  subst h0 h1 h2 h3
  rfl
 | [], h0, _, _, _ => simp at h0
 | [x0], _, h1, _, _ => simp at h1
 | [x0, x1], _, _, h2, _ => simp at h2
 | [x0, x1, x2], _, _, _, h3 => simp at h3
theorem jn_read (v : Value) (l : List Int) (w : World) (hv : SlG bR w v l) (hl : 4 ≤ l.length) :
  Calls Tryz.prog 223 #[v] w fun e w' => e = .returned (.int .u32 (rd4 l)) ∧ ∃ d, w' = bw w d := by
 obtain ⟨b, o, cap, rfl, -, hb⟩ := slB_open hv (by omega)
 have g : ∀ i, i < 4 → ∃ x, l[i]? = some x ∧ (0 ≤ x ∧ x < 256) ∧ w.cell? ⟨b, o + i, none⟩ = some (.int .u8 x) := fun i hi => by
  have hx : l[i]? = some l[i] := List.getElem?_eq_getElem (by omega)
  exact ⟨_, hx, slB_by hv _ (List.mem_of_getElem? hx), slB_cell hv hx⟩
 obtain ⟨x0, a0, b0, c0⟩ := g 0 (by decide)
 obtain ⟨x1, a1, b1, c1⟩ := g 1 (by decide)
 obtain ⟨x2, a2, b2, c2⟩ := g 2 (by decide)
 obtain ⟨x3, a3, b3, c3⟩ := g 3 (by decide)
 rw [rd4_get a0 a1 a2 a3]
 generalize l.length = m at *
 have z0 : (0 : Int) < m := by omega
 have z1 : (1 : Int) < m := by omega
 have z2 : (2 : Int) < m := by omega
 have z3 : (3 : Int) < m := by omega
 rw [Nat.add_zero] at c0
 clear g hv a0 a1 a2 a3
 refine lay_start ?_
 go_enter Tryz.func223, Tryz.ntmps223
 go_wp2_with fail
 refine region_bw (by kernel_rfl) (by kernel_rfl) ?_
 repeat (go_big_quiet_step ((first | fail)))
 refine wpQuiet_nil ?_
 rintro w' ⟨d, rfl⟩
 rw [lay_bw]
 rw [orJ_four b0 b1 b2 b3]
 go_wp2_with fail
 exact bodyPost_ret (v := .int .u32 (x0 * 16777216 + x1 * 65536 + x2 * 256 + x3)) (by simp [results, Tryz.results223, go_sem]) rfl ⟨rfl, lay_ex _ _⟩
theorem slB_cut {w : World} {b o n cap f k c : Nat} {l : List Int} (h : SlG bR w (.slice (some ⟨b, o, none⟩) n cap) l) (hf : f + k ≤ l.length) (hc : k ≤ c ∧ c ≤ 9223372036854775807) : SlG bR w (.slice (some ⟨b, o + f, none⟩) k c) ((l.drop f).take k) := by
 have := slG_cut h hf hc
 rwa [show o + f * bR.k = o + f from by show o + f * 1 = o + f; omega] at this
theorem slB_rest {w : World} {b o cap k : Nat} {l : List Int} (h : SlG bR w (.slice (some ⟨b, o, none⟩) l.length cap) l) (hc : l.length ≤ cap ∧ cap ≤ 9223372036854775807) (hk : k ≤ l.length) : SlG bR w (.slice (if cap = k then some ⟨b, o, none⟩ else some ⟨b, o + k, none⟩) (l.length - k) (cap - k)) (l.drop k) := by
 by_cases e : cap = k
 ·have hz : l.drop k = [] := List.drop_eq_nil_of_le (by omega)
  rw [hz, show l.length - k = 0 by omega]
  exact slG_none (by omega)
 ·rw [if_neg e]
  have := slB_cut h (f := k) (k := l.length - k) (c := cap - k) (by omega) (by omega)
  rwa [List.take_of_length_le (by rw [List.length_drop]; omega)] at this
def NilC (v : Value) : Prop := ∀ a n c, v = .slice a n c → a = none → c = 0
theorem nilc_some {ad : Addr} {n c : Nat} : NilC (.slice (some ad) n c) := fun _ _ _ e hn => by cases e; cases hn
theorem OwG.nilc {α : Type} {R : RecT α} {w : World} {base : Nat} {v : Value} {l : List α} (h : OwG R w base v l) : NilC v := by
 intro a n c e hn
 rcases h.1.2 with ⟨rfl, -⟩ | ⟨g, cap, cur, rfl, -⟩
 ·cases e; rfl
 ·cases e; cases hn
theorem slG_down {α : Type} {R : RecT α} {w : World} {L : List (Obj ⊕ Ext)} {u : Value} {l : List α} (h : SlG R (lay w L) u l) (hb : ∀ k, u.ownBlock = some k → k < w.heap.size) : SlG R w u l := by
 obtain ⟨a, cap, rfl, h2, h0, h3⟩ := h
 refine ⟨a, cap, rfl, h2, h0, fun hl => ?_⟩
 obtain ⟨b, o, rfl, h4, h5⟩ := h3 hl
 have hlt : b < w.heap.size := hb b rfl
 exact ⟨b, o, rfl, hlt, fun i x hx j u hu => by rw [← lay_old w L (o + (i * R.k + j)) b hlt]; exact h5 i x hx j u hu⟩
def RecP (w : World) (v : Value) (l : List Int) (e : Ending) : Prop :=
 (recF l = none ∧ e = .returned (.tuple #[.slice none 0 0, .slice none 0 0, .bool false])) ∨
 (∃ r t vr vt, recF l = some (r, t) ∧ SlG bR w vr r ∧ SlG bR w vt t ∧ (∀ k, vr.ownBlock = some k → v.ownBlock = some k) ∧ (∀ k, vt.ownBlock = some k → v.ownBlock = some k) ∧ NilC vr ∧ NilC vt ∧ e = .returned (.tuple #[vr, vt, .bool true]))
theorem jn_record (v : Value) (l : List Int) (w : World) (hv : SlG bR w v l) (hl : l.length ≤ 10000000) :
  Calls Tryz.prog 141 #[v] w fun e w' => RecP w v l e ∧ ∃ d, w' = bw w d := by
 by_cases h8 : l.length < 8
 ·have hn : recF l = none := by unfold recF; rw [if_pos h8]
  obtain ⟨a, c, rfl⟩ := hv.form
  have z1 : (l.length : Int) < 8 := by omega
  generalize l.length = m at *
  clear hv
  refine lay_start ?_
  go_enter Tryz.func141, Tryz.ntmps141
  go_wp2_with fail
  exact bodyPost_ret (v := .tuple #[.slice none 0 0, .slice none 0 0, .bool false]) (by simp [results, Tryz.results141, go_sem]) rfl ⟨.inl ⟨hn, rfl⟩, lay_ex _ _⟩
 ·obtain ⟨b, o, cap, rfl, ⟨hc1, hc2⟩, hb⟩ := slB_open hv (by omega)
  obtain ⟨q0, q1⟩ := rd4_bd (slB_by hv)
  have HR := Lib.hid (fun L => jn_read _ l (lay w L) (hv.lay L) (by omega))
  obtain ⟨n, hn⟩ : ∃ n : Nat, rd4 l = (n : Int) := ⟨(rd4 l).toNat, by omega⟩
  rw [hn] at HR q0 q1
  have hnt : (rd4 l).toNat = n := by omega
  have z1 : ¬ (l.length : Int) < 8 := by omega
  have z2 : wrap64 ((n : Int) + 8) = n + 8 := by unfold wrap64; omega
  have z3 : wrap64 (4 + (n : Int)) = 4 + n := by unfold wrap64; omega
  have z5 : IntKind.i64.wrap (n : Int) = n := IntWalk.i64_in _ (by omega)
  by_cases hA : 65535 < n
  ·have hnn : recF l = none := by unfold recF; rw [if_neg h8, if_pos (by omega)]
   have g1 : decide ((65535 : Int) < (n : Int)) = true := decide_eq_true (by omega)
   generalize l.length = m at *
   clear hv
   refine lay_start ?_
   go_enter Tryz.func141, Tryz.ntmps141
   go_wp2_with (go_at_call 223; refine (HR.out _).mono ?_; rintro e w' ⟨rfl, d, rfl⟩)
   refine region_bw (by kernel_rfl) (by kernel_rfl) ?_
   repeat (go_big_quiet_step ((first | fail)))
   refine wpQuiet_nil ?_
   rintro w' ⟨d, rfl⟩
   rw [lay_bw]
   go_wp2_with fail
   exact bodyPost_ret (v := .tuple #[.slice none 0 0, .slice none 0 0, .bool false]) (by simp [results, Tryz.results141, go_sem]) rfl ⟨.inl ⟨hnn, rfl⟩, lay_ex _ _⟩
  ·have g1 : decide ((65535 : Int) < (n : Int)) = false := decide_eq_false (by omega)
   have g1' : ¬ 65535 < n := hA
   by_cases hB : l.length < n + 8
   ·have hnn : recF l = none := by unfold recF; rw [if_neg h8, if_neg (by omega), if_pos (by omega)]
    have g2 : decide ((l.length : Int) < (n : Int) + 8) = true := decide_eq_true (by omega)
    generalize l.length = m at *
    clear hv
    refine lay_start ?_
    go_enter Tryz.func141, Tryz.ntmps141
    go_wp2_with (go_at_call 223; refine (HR.out _).mono ?_; rintro e w' ⟨rfl, d, rfl⟩)
    refine region_bw (by kernel_rfl) (by kernel_rfl) ?_
    repeat (go_big_quiet_step ((first | fail)))
    refine wpQuiet_nil ?_
    rintro w' ⟨d, rfl⟩
    rw [lay_bw]
    go_wp2_with fail
    exact bodyPost_ret (v := .tuple #[.slice none 0 0, .slice none 0 0, .bool false]) (by simp [results, Tryz.results141, go_sem]) rfl ⟨.inl ⟨hnn, rfl⟩, lay_ex _ _⟩
   ·have g2 : decide ((l.length : Int) < (n : Int) + 8) = false := decide_eq_false (by omega)
    have hc4 : ¬ cap = 4 + n := by omega
    have y1 : (4 : Int) + (n : Int) ≤ (l.length : Int) := by omega
    have y2 : (4 : Int) + (n : Int) ≤ (cap : Int) := by omega
    have y3 : ((4 : Int) + (n : Int)).toNat = 4 + n := by omega
    have hd : SlG bR w (.slice (some ⟨b, o + (4 + n), none⟩) (l.length - (4 + n)) (cap - (4 + n))) (l.drop (4 + n)) := by
     have := slB_cut hv (f := 4 + n) (k := l.length - (4 + n)) (c := cap - (4 + n)) (by omega) (by omega)
     rwa [List.take_of_length_le (by rw [List.length_drop]; omega)] at this
    have ht : SlG bR w (.slice (some ⟨b, o, none⟩) (4 + n) cap) (l.take (4 + n)) := slB_cut hv (f := 0) (k := 4 + n) (c := cap) (by omega) (by omega)
    have HR2 := Lib.hid (fun L => jn_read _ _ (lay w L) (hd.lay L) (by rw [List.length_drop]; omega))
    have HS := Lib.hid (fun L => jn_sum _ _ (lay w L) (ht.lay L) (by rw [List.length_take]; omega))
    obtain ⟨X, hX⟩ : ∃ X, rd4 (l.drop (4 + n)) = X := ⟨_, rfl⟩
    obtain ⟨Y, hY⟩ : ∃ Y, sumF (l.take (4 + n)) = Y := ⟨_, rfl⟩
    rw [hX] at HR2
    rw [hY] at HS
    by_cases hC : X = Y
    ·have hnn : recF l = some ((l.drop 4).take n, l.drop (8 + n)) := by unfold recF; rw [if_neg h8, if_neg (by omega), if_neg (by omega), hnt, hX, hY, if_neg (fun h => h hC)]
     subst hC
     have g3 : (X != X) = false := by simp
     have HT := Lib.hid (And.intro (slB_cut hv (f := 4) (k := n) (c := cap - 4) (by omega) (by omega)) (slB_rest hv ⟨hc1, hc2⟩ (show 8 + n ≤ l.length by omega)))
     have HN := Lib.hid hnn
     clear hnn
     have HU : Hid (IntKind.i64.wrap (8 + (n : Int)) = 8 + n ∧ ((8 : Int) + (n : Int)).toNat = 8 + n ∧ (8 : Int) + (n : Int) ≤ (l.length : Int) ∧ ¬ cap = 4) := Lib.hid ⟨IntWalk.i64_in _ (by omega), by omega, by omega, by omega⟩
     generalize l.length = m at *
     clear hv hd ht hX hY
     refine lay_start ?_
     go_enter Tryz.func141, Tryz.ntmps141
     go_wp2_with (go_at_call 223; refine (HR.out _).mono ?_; rintro e w' ⟨rfl, d, rfl⟩)
     refine region_bw (by kernel_rfl) (by kernel_rfl) ?_
     repeat (go_big_quiet_step ((first | (go_at_call 223; first | ((with_reducible refine bq (HR2.out _) ?_); exact (fun d => ⟨d, rfl⟩)) | ((with_reducible refine bq (HR2.out _) ?_); exact (fun d => lay_join _ _ _ d))) | (go_at_call 224; (with_reducible refine bqs (HS.out _) ?_); first | exact ⟨_, rfl⟩ | exact ⟨noExt _, (bw_noExt _).symm⟩))))
     refine wpQuiet_nil ?_
     rintro w' ⟨d, rfl⟩
     rw [lay_bw]
     clear z2 g2 hB g3
     go_wp2_with fail
     obtain ⟨u2, u3, u4, u5⟩ := HU.out
     have u1 : (4 : Int) ≤ 4 + (n : Int) := by omega
     refine region_bw (by kernel_rfl) (by kernel_rfl) ?_
     repeat (go_big_quiet_step ((first | fail)))
     refine wpQuiet_nil ?_
     rintro w' ⟨d, rfl⟩
     rw [lay_bw]
     obtain ⟨A, hA⟩ : ∃ A, A = (if cap = 8 + n then some (⟨b, o, none⟩ : Addr) else some ⟨b, o + (8 + n), none⟩) := ⟨_, rfl⟩
     rw [← hA]
     rw [← hA] at HT
     have HAo : Hid (A = some ⟨b, o, none⟩ ∨ A = some ⟨b, o + (8 + n), none⟩) := Lib.hid (by rw [hA]; split <;> simp)
     clear hA
     go_wp2_with fail
     exact bodyPost_ret (v := .tuple #[.slice (some ⟨b, o + 4, none⟩) n (cap - 4), .slice A (m - (8 + n)) (cap - (8 + n)), .bool true]) (by simp [results, Tryz.results141, go_sem]) rfl ⟨.inr ⟨_, _, _, _, HN.out, HT.out.1, HT.out.2, (fun k hk => hk), (fun k hk => by rcases HAo.out with h | h <;> (rw [h] at hk; exact hk)), nilc_some, (by rcases HAo.out with h | h <;> (rw [h]; exact nilc_some)), rfl⟩, lay_ex _ _⟩
    ·have hnn : recF l = none := by unfold recF; rw [if_neg h8, if_neg (by omega), if_neg (by omega), hnt, hX, hY, if_pos hC]
     have g3 : (X != Y) = true := bne_iff_ne.2 hC
     have g4 : (X == Y) = false := beq_eq_false_iff_ne.2 hC
     generalize l.length = m at *
     clear hv hd ht hX hY
     refine lay_start ?_
     go_enter Tryz.func141, Tryz.ntmps141
     go_wp2_with (go_at_call 223; refine (HR.out _).mono ?_; rintro e w' ⟨rfl, d, rfl⟩)
     refine region_bw (by kernel_rfl) (by kernel_rfl) ?_
     repeat (go_big_quiet_step ((first | (go_at_call 223; first | ((with_reducible refine bq (HR2.out _) ?_); exact (fun d => ⟨d, rfl⟩)) | ((with_reducible refine bq (HR2.out _) ?_); exact (fun d => lay_join _ _ _ d))) | (go_at_call 224; (with_reducible refine bqs (HS.out _) ?_); first | exact ⟨_, rfl⟩ | exact ⟨noExt _, (bw_noExt _).symm⟩))))
     refine wpQuiet_nil ?_
     rintro w' ⟨d, rfl⟩
     rw [lay_bw]
     go_wp2_with fail
     exact bodyPost_ret (v := .tuple #[.slice none 0 0, .slice none 0 0, .bool false]) (by simp [results, Tryz.results141, go_sem]) rfl ⟨.inl ⟨hnn, rfl⟩, lay_ex _ _⟩
end Go.Proofs.YtcbicpbbjbkiaaaGreatDoor
