/- Contracts and plain laws, several texts in one: Infra; Lay; Frame; Region; Mix; Chn; Plain; Angle -/
import Derived.Deep.Quiet
import Derived.Deep.QuietTactic
import Derived.StillTail
import Derived.Below
import Derived.Laws.NewBlocks
import Derived.Attr
import Derived.OwnWalk
import Derived.Test.YtnnmfdeeicpdlaaGreatRows
import Derived.WalkKit
import Derived.ProofKit
import Derived.Lib.SmallJoins
import Derived.OpenShut
import Derived.Test.YtnnmfdeeicpdlaaGreatProg
import Derived.WalkSpells
import Derived.WalkLawsBesides
import Derived.Lib.Hide
import Derived.BigQuiet
/- Lemmas on worlds that only grow: 'bw w d' is some world that holds all blocks of w as they were. Regions that draw their order, in the class of such worlds; with a tail (a store) behind them. No program in sight. -/
namespace Go.Proofs.YtnnmfdeeicpdlaaGreat
open Go.RowKit

structure Ext where
  blocks : Array Obj
  drawn : Nat
instance : Nonempty Ext := ⟨⟨#[], 0⟩⟩
def bw (w : World) (d : Ext) : World := { w with heap := w.heap ++ d.blocks, drawn := d.drawn }

theorem bw_of {w w' : World} (h : Below w.heap.size w w') : ∃ d, w' = bw w d := by
  refine ⟨⟨w'.heap.extract w.heap.size w'.heap.size, w'.drawn⟩, ?_⟩
  obtain ⟨heap, tape, drawn, os, output⟩ := w'
  obtain ⟨h1, h2, h3, h4, h5⟩ := h
  simp only at h1 h2 h3 h4 h5
  subst h1 h2 h3
  simp only [bw]
  congr 1
  apply Array.ext_getElem?
  intro i
  rw [Array.getElem?_append]
  split
  · rename_i hi; rw [← h5 i hi]
  · rename_i hi
    simp only [Array.getElem?_extract]
    by_cases hh : i < heap.size
    · rw [if_pos (by omega)]; congr 1; omega
    · rw [if_neg (by omega)]; exact Array.getElem?_eq_none (by omega)
theorem bw_le (w : World) (d : Ext) : w.heap.size ≤ (bw w d).heap.size := by simp [bw]
theorem bw_get (w : World) (d : Ext) (k : Nat) (h : k < w.heap.size) : (bw w d).heap[k]? = w.heap[k]? := by simp only [bw, Array.getElem?_append, h, if_true]
theorem bw_below (w : World) (d : Ext) : Below w.heap.size w (bw w d) := ⟨rfl, rfl, rfl, bw_le w d, fun k hk => bw_get w d k hk⟩

@[go_sem] theorem bw_cell (w : World) (d : Ext) (b i : Nat) (h : b < w.heap.size) : (bw w d).cell? ⟨b, i, none⟩ = w.cell? ⟨b, i, none⟩ := (bw_below w d).cell (p := ⟨b, i, none⟩) h
@[go_sem] theorem bw_frozen (w : World) (d : Ext) (b i : Nat) (h : b < w.heap.size) : (bw w d).frozen? ⟨b, i, none⟩ = w.frozen? ⟨b, i, none⟩ := (bw_below w d).frozen (p := ⟨b, i, none⟩) h
@[go_sem] theorem bw_shape (w : World) (d : Ext) (r : Nat) (h : r < w.heap.size) : (bw w d).shape? r = w.shape? r := by
  unfold World.shape?; rw [(bw_below w d).block r h]
@[go_sem] theorem bw_block (w : World) (d : Ext) (r : Nat) (h : r < w.heap.size) : (bw w d).heap[r]? = w.heap[r]? := (bw_below w d).block r h
@[go_sem] theorem lt_bw (w : World) (d : Ext) (b : Nat) (h : b < w.heap.size) : (b < (bw w d).heap.size) = True := eq_true (Nat.lt_of_lt_of_le h (bw_le w d))
@[go_sem] theorem le_bw_s (w : World) (d : Ext) (b : Nat) (h : b ≤ w.heap.size) : (b ≤ (bw w d).heap.size) = True := eq_true (Nat.le_trans h (bw_le w d))
@[go_sem] theorem le_bw_t (w : World) (d : Ext) (b : Nat) (h : b < w.heap.size) : (b ≤ (bw w d).heap.size) = True := eq_true (Nat.le_trans (Nat.le_of_lt h) (bw_le w d))
@[go_sem] theorem le_plus (n b k : Nat) (h : b ≤ n) : (b ≤ n + k) = True := eq_true (by omega)
@[go_sem] theorem lt_plus (n b k : Nat) (h : b < n) : (b < n + k) = True := eq_true (by omega)

@[go_sem] theorem bw_setCell (w : World) (d : Ext) (b i : Nat) (v : Value) (h : b < w.heap.size) : (bw w d).setCell ⟨b, i, none⟩ v = bw (w.setCell ⟨b, i, none⟩ v) d := by
  simp only [bw, World.setCell]
  congr 1
  apply Array.ext_getElem?
  intro k
  simp only [Array.getElem?_modify, Array.getElem?_append, Array.size_modify]
  by_cases hk : b = k
  · subst hk; simp [h]
  · simp [hk]
@[go_sem] theorem bw_drew (w : World) (d : Ext) : (bw w d).drew = bw w ⟨d.blocks, d.drawn + 1⟩ := rfl
@[go_sem] theorem bw_bw (w : World) (d e : Ext) : bw (bw w d) e = bw w ⟨d.blocks ++ e.blocks, e.drawn⟩ := by simp [bw, Array.append_assoc]
theorem bw_drewExt (w : World) : w.drew = bw w ⟨#[], w.drawn + 1⟩ := by
  show ({ w with drawn := w.drawn + 1 } : World) = { w with heap := w.heap ++ #[], drawn := w.drawn + 1 }
  rw [Array.append_empty]

theorem ret_bool {a b : Bool} (h : a = b) : Ending.returned (.bool a) = .returned (.bool b) := by rw [h]
theorem below_bw {B : Nat} {a w : World} {d : Ext} (h : Below B a w) (hB : B ≤ w.heap.size) : Below B a (bw w d) := h.trans ((bw_below w d).mono hB)

section
variable {P : Program} {ops : Array Oper} {md : Region.Mode} {C : World → Prop}

theorem region_bw {id : Nat} {Q : Exit → Act → World → Prop} {a : Act} {w : World} {l : List Oper} (hm : P.follows .mixedOrders = true) (hB : Region.lexB .any l.toArray = true)
    (h : wpQuiet P l.toArray (fun w' => ∃ d, w' = bw w d) (fun a' => ∀ w', (∃ d, w' = bw w d) → Q .normal a' w') l a) : (Code.region id l.toArray true).wp P Q a w :=
  wp_region_quiet (C := fun w' => ∃ d, w' = bw w d) hm hB ⟨_, bw_drewExt w⟩ (by simpa using h)

def headAny (P : Program) (md : Region.Mode) (ops : Array Oper) (C : World → Prop) (n : Nat) (L : Array Bool → Act → Prop) : Nat → Array Bool → Act → Prop
  | 0, listed, a => L listed a
  | f + 1, listed, a => Region.ready md ops listed ≠ [] ∧ ∀ i ∈ Region.ready md ops listed, i < n ∧ qOp P ops C i (headAny P md ops C n L f (listed.setIfInBounds i true)) a

theorem any_of_head {n g : Nat} {L : Array Bool → Act → Prop} {Q' : Exit → Act → World → Prop} (hL : ∀ listed a w, C w → L listed a → wpAny P md ops Q' g listed a w) :
    ∀ (f : Nat) (listed : Array Bool) (a : Act) (w : World), C w → headAny P md ops C n L f listed a → wpAny P md ops Q' (f + g) listed a w
  | 0, listed, a, w, hw, h => by rw [Nat.zero_add]; exact hL _ _ _ hw h
  | f + 1, listed, a, w, hw, h => by
    rw [show f + 1 + g = (f + g) + 1 by omega]
    exact ⟨fun h0 => absurd h0 h.1, fun i hi => wpOp_of_qOp hw (fun a' w' hw' h' => any_of_head hL f _ a' w' hw' h') (h.2 i hi).2⟩

theorem head_first {n i : Nat} {oi : Oper} {v : Value} {L : Array Bool → Act → Prop} (hi : ops[i]? = some oi) (hsel : ∀ (j : Nat) (o : Oper) cs b, ops[j]? = some o → o.op ≠ .select cs b)
    (hs : Region.sinkB md ops n = true) (hc : Region.chainB md ops n = true) (hn : n < ops.size) (hin : i < n)
    (hdone : ∀ listed a, L listed a → ∀ j ∈ Region.ready md ops listed, n ≤ j) (f : Nat) :
    ∀ (listed : Array Bool) (a : Act), HeadInv md ops n listed →
      (∀ j oj, ops[j]? = some oj → j ≠ i → listed.getD j true = false → (∀ e ∈ oj.after, Region.binds md e = true → e.on ≠ i) → oi.apart ops oj = true) →
      i ∈ Region.ready md ops listed → YieldsIn P ops C oi v a →
      headAny P md ops C n L f (listed.setIfInBounds i true) (a.put oi.dst v) → headAny P md ops C n L (f + 1) listed a := by
  induction f with
  | zero =>
    intro listed a inv _ hr hy H
    have hun := (mem_ready.1 hr).1
    have early : ∀ j ∈ Region.ready md ops listed, j < n := fun j hj =>
      Nat.lt_of_not_le fun hle => tail_waits hs hc hn inv _ i rfl hin hun j hle hj
    refine ⟨List.ne_nil_of_mem hr, fun j hj => ⟨early j hj, ?_⟩⟩
    by_cases hji : j = i
    · subst hji; exact hy.qOp hi H
    · exact absurd (hdone _ _ H j (ready_mono hj hji)) (Nat.not_le_of_lt (early j hj))
  | succ f ih =>
    intro listed a inv hfree hr hy H
    have hun := (mem_ready.1 hr).1
    have early : ∀ j ∈ Region.ready md ops listed, j < n := fun j hj =>
      Nat.lt_of_not_le fun hle => tail_waits hs hc hn inv _ i rfl hin hun j hle hj
    refine ⟨List.ne_nil_of_mem hr, fun j hj => ⟨early j hj, ?_⟩⟩
    by_cases hji : j = i
    · subst hji; exact hy.qOp hi H
    · have h1 := (H.2 j (ready_mono hj hji)).2
      obtain ⟨hjun, oj, hoj, hall⟩ := mem_ready.1 hj
      have hnot : ∀ e ∈ oj.after, Region.binds md e = true → e.on ≠ i := fun e he hb heq => by
        have h2 := hall e he hb
        rw [heq, getD_both hun] at h2
        cases h2
      have h2 := qOp_put hoj (hfree j oj hoj hji hjun hnot) (fun cs b => hsel i oi cs b hi) (fun cs b => hsel j oj cs b hoj) hy h1
      have hfree' : ∀ k ok, ops[k]? = some ok → k ≠ i → (listed.setIfInBounds j true).getD k true = false →
          (∀ e ∈ ok.after, Region.binds md e = true → e.on ≠ i) → oi.apart ops ok = true := fun k ok hk hki hu hno => by
        refine hfree k ok hk hki ?_ hno
        by_cases hjk : j = k
        · subst hjk; exact hjun
        · rw [getD_set_ne true hjk] at hu; exact hu
      refine qOp_mono (fun a' h3 => ih (listed.setIfInBounds j true) a' (inv.set hj (early j hj)) hfree' (ready_mono hr (Ne.symm hji)) h3.1 ?_) h2
      rw [Array.setIfInBounds_comm _ _ hji]
      exact h3.2

theorem head_lex {n g : Nat} {Lq : Act → Prop} (hsel : Region.noSelect ops = true) (hs : Region.sinkB md ops n = true) (hc : Region.chainB md ops n = true) (hn : n < ops.size) :
    ∀ (l : List Oper) (k : Nat) (listed : Array Bool) (a : Act), (∀ j, j < l.length → l[j]? = ops[k + j]?) → k + l.length = n → HeadInv md ops n listed →
    Region.lexHead md ops g l.length k listed = true → wpQuiet P ops C Lq l a →
    headAny P md ops C n (fun listed' a' => Region.seqB md ops g n listed' = true ∧ Lq a') l.length listed a
  | [], k, listed, a, _, hk, _, hB, h => by
    obtain rfl : k = n := by simpa using hk
    exact ⟨by simpa [Region.lexHead] using hB, h⟩
  | o :: l, k, listed, a, hl, hk, inv, hB, h => by
    have h0 : ops[k]? = some o := by simpa using (hl 0 (by simp)).symm
    simp only [List.length_cons, Region.lexHead, Bool.and_eq_true] at hB
    obtain ⟨⟨hr, hf⟩, hB'⟩ := hB
    simp only [List.length_cons] at hk
    have hkn : k < n := by omega
    have hr' : k ∈ Region.ready md ops listed := by simpa using hr
    have hst : qOp P ops C k (wpQuiet P ops C Lq l) a := by unfold qOp; simp only [h0]; exact h
    obtain ⟨v, hy, hK⟩ := yieldsIn_of_qOp h0 hst
    exact head_first h0 (Region.noSelect_spec hsel) hs hc hn hkn (fun listed' a' hL => seqB_ready hL.1) l.length listed a inv (Region.free_spec h0 hf) hr' hy
      (head_lex hsel hs hc hn l (k + 1) _ _ (fun j hj => by have := hl (j + 1) (by simp; omega); simpa [Nat.add_assoc, Nat.add_comm 1 j] using this) (by omega) (inv.set hr' hkn) hB' hK)

theorem region_bw_tail {id : Nat} {Q : Exit → Act → World → Prop} {a : Act} {w : World} {l : List Oper} (n : Nat) (hm : P.follows .mixedOrders = true) (hB : Region.lexTailB .any l.toArray n = true)
    (h : wpQuiet P l.toArray (fun w' => ∃ d, w' = bw w d) (fun a' => ∀ w', (∃ d, w' = bw w d) → wpList P l.toArray Q (l.drop n) a' w') (l.take n) a) : (Code.region id l.toArray true).wp P Q a w := by
  simp only [Region.lexTailB, Bool.and_eq_true, decide_eq_true_eq] at hB
  obtain ⟨⟨⟨⟨hsel, hn⟩, hs⟩, hc⟩, hlex⟩ := hB
  have hn' : n < l.length := by simpa using hn
  have htl : (l.take n).length = n := by simp; omega
  have hdl : (l.drop n).length = l.toArray.size - n := by simp
  have inv0 : HeadInv .any l.toArray n (Array.replicate l.toArray.size false) :=
    ⟨by simp, fun j oj _ hl => (by rw [getD_replicate_false] at hl; cases hl), fun t _ ht => getD_in (by simpa using ht) (getD_replicate_false _ _)⟩
  have H := head_lex (md := .any) (g := l.toArray.size - n) hsel hs hc hn (l.take n) 0 _ a (fun j hj => by
    have hj' : j < n := by rw [htl] at hj; exact hj
    simp [hj']) (by simpa using htl) inv0 (by rw [htl]; exact hlex) h
  refine wp_region_any hm ?_
  have := any_of_head (Q' := Q) (g := l.toArray.size - n) (fun listed a' w' hw' hL => by
    have := wpAny_of_seq (md := .any) (Q' := Q) (l.drop n) n listed a' w' (fun j => by simp [List.getElem?_drop]) (by rw [hdl]; exact hL.1) (hL.2 w' hw')
    rwa [hdl] at this) _ _ _ { w with drawn := w.drawn + 1 } ⟨_, bw_drewExt w⟩ H
  rw [htl, show n + (l.toArray.size - n) = l.toArray.size by omega] at this
  exact this
end

end Go.Proofs.YtnnmfdeeicpdlaaGreat
/- Worlds written out: 'lay w L' is w with the segments L behind it (the latest first): a block that was made, or whatever a callee left. Addresses are written by the sizes of what lies before them. No program in sight. -/
namespace Go.Proofs.YtnnmfdeeicpdlaaGreat
open Go.RowKit

def Ext.n (d : Ext) : Nat := d.blocks.size
def lay (w : World) : List (Obj ⊕ Ext) → World
  | [] => w
  | .inl o :: L => (lay w L).alloc o
  | .inr d :: L => bw (lay w L) d
def shp : List (Obj ⊕ Ext) → List Nat
  | [] => []
  | .inl _ :: L => 1 :: shp L
  | .inr d :: L => d.n :: shp L
def posn (w : World) (p : List Nat) : Nat := w.heap.size + p.sum
def objS : List (Obj ⊕ Ext) → Nat → Option Obj
  | .inl o :: _, 0 => some o
  | _ :: L, n + 1 => objS L n
  | _, _ => none
def cellS : List (Obj ⊕ Ext) → Nat → Nat → Option Value
  | .inl (.cells c _ _) :: _, 0, i => c[i]?
  | _ :: L, n + 1, i => cellS L n i
  | _, _, _ => none
def frozS : List (Obj ⊕ Ext) → Nat → Nat → Bool
  | .inl (.cells _ _ f) :: _, 0, i => decide (f.1 ≤ i) && decide (i < f.2)
  | _ :: L, n + 1, i => frozS L n i
  | _, _, _ => false
def updS : List (Obj ⊕ Ext) → Nat → Nat → Value → List (Obj ⊕ Ext)
  | .inl (.cells c t f) :: L, 0, i, v => .inl (.cells (c.setIfInBounds i v) t f) :: L
  | x :: L, n + 1, i, v => x :: updS L n i v
  | L, _, _, _ => L

section
variable (w : World) (o : Obj) (d : Ext) (L : List (Obj ⊕ Ext)) (x : Obj ⊕ Ext) (n i : Nat) (v : Value) (c : Array Value) (t : TypeId) (f : Nat × Nat)
@[go_sem] theorem lay_alloc : (lay w L).alloc o = lay w (.inl o :: L) := rfl
@[go_sem] theorem lay_bw : bw (lay w L) d = lay w (.inr d :: L) := rfl
@[go_sem] theorem shp_nil : shp [] = [] := rfl
@[go_sem] theorem shp_inl : shp (.inl o :: L) = 1 :: shp L := rfl
@[go_sem] theorem shp_inr : shp (.inr d :: L) = d.n :: shp L := rfl
@[go_sem] theorem objS_0 : objS (.inl o :: L) 0 = some o := rfl
@[go_sem] theorem objS_s : objS (x :: L) (n + 1) = objS L n := by cases x <;> rfl
@[go_sem] theorem cellS_0 : cellS (.inl (.cells c t f) :: L) 0 i = c[i]? := rfl
@[go_sem] theorem cellS_s : cellS (x :: L) (n + 1) i = cellS L n i := by cases x with | inl o => cases o <;> rfl | inr d => rfl
@[go_sem] theorem frozS_0 : frozS (.inl (.cells c t f) :: L) 0 i = (decide (f.1 ≤ i) && decide (i < f.2)) := rfl
@[go_sem] theorem frozS_s : frozS (x :: L) (n + 1) i = frozS L n i := by cases x with | inl o => cases o <;> rfl | inr d => rfl
@[go_sem] theorem updS_0 : updS (.inl (.cells c t f) :: L) 0 i v = .inl (.cells (c.setIfInBounds i v) t f) :: L := rfl
@[go_sem] theorem updS_s : updS (x :: L) (n + 1) i v = x :: updS L n i v := by cases x with | inl o => cases o <;> rfl | inr d => rfl
@[go_sem] theorem lay_size : (lay w L).heap.size = posn w (shp L) := by
  induction L with
  | nil => simp [lay, shp, posn]
  | cons x L ih =>
    cases x with
    | inl o => simp only [lay, World.size_alloc, ih, shp, posn, List.sum_cons]; omega
    | inr d => simp only [lay, shp, posn, List.sum_cons, bw, Array.size_append, ih, Ext.n]; omega
theorem lay_extends : Below w.heap.size w (lay w L) := by
  induction L with
  | nil => exact Below.refl _ _
  | cons x L ih =>
    cases x with
    | inl o => exact ih.alloc ih.size o
    | inr d => exact below_bw ih ih.size
theorem lay_ex : ∃ d, lay w L = bw w d := bw_of (lay_extends w L)
@[go_sem] theorem lay_old (b : Nat) (h : b < w.heap.size) : (lay w L).cell? ⟨b, i, none⟩ = w.cell? ⟨b, i, none⟩ := (lay_extends w L).cell (p := ⟨b, i, none⟩) h
@[go_sem] theorem lay_oldf (b : Nat) (h : b < w.heap.size) : (lay w L).frozen? ⟨b, i, none⟩ = w.frozen? ⟨b, i, none⟩ := (lay_extends w L).frozen (p := ⟨b, i, none⟩) h
@[go_sem] theorem lay_oldb (b : Nat) (h : b < w.heap.size) : (lay w L).heap[b]? = w.heap[b]? := (lay_extends w L).block b h
@[go_sem] theorem lay_olds (b : Nat) (h : b < w.heap.size) : (lay w L).shape? b = w.shape? b := by unfold World.shape?; rw [lay_oldb w L b h]
@[go_sem] theorem lt_posn (p : List Nat) (b : Nat) (h : b < w.heap.size) : (b < posn w p) = True := eq_true (by unfold posn; omega)
@[go_sem] theorem le_posn (p : List Nat) (b : Nat) (h : b < w.heap.size) : (b ≤ posn w p) = True := eq_true (by unfold posn; omega)
@[go_sem] theorem base_le_posn (p : List Nat) : (w.heap.size ≤ posn w p) = True := eq_true (by unfold posn; omega)

end
def isC : List (Obj ⊕ Ext) → Nat → Bool
  | .inl (.cells _ _ _) :: _, 0 => true
  | _ :: L, n + 1 => isC L n
  | _, _ => false
@[go_sem] theorem isC_0 (c : Array Value) (t : TypeId) (f : Nat × Nat) (L : List (Obj ⊕ Ext)) : isC (.inl (.cells c t f) :: L) 0 = true := rfl
@[go_sem] theorem isC_s (x : Obj ⊕ Ext) (L : List (Obj ⊕ Ext)) (n : Nat) : isC (x :: L) (n + 1) = isC L n := by cases x with | inl o => cases o <;> rfl | inr d => rfl

theorem lay_get (w : World) : ∀ (L : List (Obj ⊕ Ext)) (k : Nat) (o : Obj), objS L k = some o → (lay w L).heap[posn w ((shp L).drop (k + 1))]? = some o
  | [], k, o, h => by cases k <;> simp [objS] at h
  | .inl o' :: L, 0, o, h => by
    simp only [objS, Option.some.injEq] at h
    subst h
    simp only [shp, List.drop_succ_cons, List.drop_zero, ← lay_size]
    show ((lay w L).heap.push o')[_]? = _
    simp
  | .inr d :: L, 0, o, h => by simp [objS] at h
  | x :: L, k + 1, o, h => by
    rw [objS_s] at h
    have ih := lay_get w L k o h
    have hlt := (Array.getElem?_eq_some_iff.1 ih).1
    cases x with
    | inl o' => simp only [shp, List.drop_succ_cons]; exact (Below.heap_alloc _ _ _ hlt).trans ih
    | inr d => simp only [shp, List.drop_succ_cons]; exact (bw_get _ _ _ hlt).trans ih
theorem obj_of_isC : ∀ (L : List (Obj ⊕ Ext)) (k : Nat), isC L k = true → ∃ c t f, objS L k = some (.cells c t f)
  | [], k, h => by cases k <;> simp [isC] at h
  | .inl (.cells c t f) :: L, 0, _ => ⟨c, t, f, rfl⟩
  | x :: L, k + 1, h => by rw [isC_s] at h; rw [objS_s]; exact obj_of_isC L k h
  | .inr _ :: _, 0, h => by simp [isC] at h
  | .inl (.pending _ _) :: _, 0, h => by simp [isC] at h
  | .inl (.view _ _) :: _, 0, h => by simp [isC] at h
  | .inl (.number _ _) :: _, 0, h => by simp [isC] at h
  | .inl (.map _ _) :: _, 0, h => by simp [isC] at h
  | .inl (.chan _ _ _ _ _ _) :: _, 0, h => by simp [isC] at h
  | .inl (.stringIter _ _) :: _, 0, h => by simp [isC] at h
  | .inl (.mapIter _ _ _ _) :: _, 0, h => by simp [isC] at h
  | .inl (.loop _) :: _, 0, h => by simp [isC] at h
  | .inl (.deferred _) :: _, 0, h => by simp [isC] at h
  | .inl (.coro _) :: _, 0, h => by simp [isC] at h
  | .inl (.finalizers _ _) :: _, 0, h => by simp [isC] at h
theorem cellS_of : ∀ (L : List (Obj ⊕ Ext)) (k i : Nat) (c : Array Value) (t : TypeId) (f : Nat × Nat), objS L k = some (.cells c t f) → cellS L k i = c[i]? ∧ frozS L k i = (decide (f.1 ≤ i) && decide (i < f.2))
  | [], k, _, _, _, _, h => by cases k <;> simp [objS] at h
  | .inl o :: L, 0, _, _, _, _, h => by simp only [objS, Option.some.injEq] at h; subst h; exact ⟨rfl, rfl⟩
  | .inr _ :: _, 0, _, _, _, _, h => by simp [objS] at h
  | x :: L, k + 1, i, c, t, f, h => by rw [objS_s] at h; rw [cellS_s, frozS_s]; exact cellS_of L k i c t f h
theorem lay_set (w : World) (i : Nat) (v : Value) : ∀ (L : List (Obj ⊕ Ext)) (k : Nat), isC L k = true → (lay w L).setCell ⟨posn w ((shp L).drop (k + 1)), i, none⟩ v = lay w (updS L k i v)
  | [], k, h => by cases k <;> simp [isC] at h
  | .inl o :: L, 0, h => by
    cases o with
    | cells c t f =>
      simp only [shp, List.drop_succ_cons, List.drop_zero, ← lay_size, lay, updS]
      unfold World.setCell World.alloc
      congr 1
      apply Array.ext_getElem?
      intro k
      rw [Array.getElem?_modify]
      by_cases hk : (lay w L).heap.size = k
      · subst hk; simp
      · have hk' : k ≠ (lay w L).heap.size := fun e => hk e.symm
        simp [hk, hk', Array.getElem?_push]
    | _ => simp [isC] at h
  | .inr d :: L, 0, h => by simp [isC] at h
  | x :: L, k + 1, h => by
    rw [isC_s] at h
    have ih := lay_set w i v L k h
    obtain ⟨c, t, f, ho⟩ := obj_of_isC L k h
    have hlt := (Array.getElem?_eq_some_iff.1 (lay_get w L k _ ho)).1
    rw [updS_s]
    cases x with
    | inl o' => simp only [shp, List.drop_succ_cons, lay]; rw [World.setCell_alloc_past _ _ _ _ hlt, ih]
    | inr d => simp only [shp, List.drop_succ_cons, lay]; rw [bw_setCell _ _ _ _ _ hlt, ih]

section
variable (w : World) (L : List (Obj ⊕ Ext)) (p : List Nat) (i : Nat) (v : Value)
theorem depth_eq (h : (shp L).drop (L.length - p.length) = p) (h2 : p.length < L.length) : p = (shp L).drop (L.length - p.length - 1 + 1) := by
  rw [show L.length - p.length - 1 + 1 = L.length - p.length by omega]; exact h.symm
@[go_sem] theorem lay_cell (h2 : p.length < L.length) (h : (shp L).drop (L.length - p.length) = p) (h3 : isC L (L.length - p.length - 1) = true) :
    (lay w L).cell? ⟨posn w p, i, none⟩ = cellS L (L.length - p.length - 1) i := by
  obtain ⟨c, t, f, ho⟩ := obj_of_isC L _ h3
  have := lay_get w L _ _ ho
  rw [← depth_eq L p h h2] at this
  rw [(cellS_of L _ i c t f ho).1]
  simp [World.cell?, this]
@[go_sem] theorem lay_froz (h2 : p.length < L.length) (h : (shp L).drop (L.length - p.length) = p) (h3 : isC L (L.length - p.length - 1) = true) :
    (lay w L).frozen? ⟨posn w p, i, none⟩ = frozS L (L.length - p.length - 1) i := by
  obtain ⟨c, t, f, ho⟩ := obj_of_isC L _ h3
  have := lay_get w L _ _ ho
  rw [← depth_eq L p h h2] at this
  rw [(cellS_of L _ i c t f ho).2]
  obtain ⟨f1, f2⟩ := f
  simp [World.frozen?, this]
@[go_sem] theorem lay_setCell (h2 : p.length < L.length) (h : (shp L).drop (L.length - p.length) = p) (h3 : isC L (L.length - p.length - 1) = true) :
    (lay w L).setCell ⟨posn w p, i, none⟩ v = lay w (updS L (L.length - p.length - 1) i v) := by
  have := lay_set w i v L _ h3
  rw [← depth_eq L p h h2] at this
  exact this
@[go_sem] theorem lay_heap (h2 : p.length < L.length) (h : (shp L).drop (L.length - p.length) = p) (h3 : (objS L (L.length - p.length - 1)).isSome = true) :
    (lay w L).heap[posn w p]? = objS L (L.length - p.length - 1) := by
  obtain ⟨o, ho⟩ := Option.isSome_iff_exists.1 h3
  have := lay_get w L _ _ ho
  rw [← depth_eq L p h h2] at this
  rw [this, ho]
end
theorem lay_start {P : Program} {f : FuncId} {args : Array Value} {w : World} {R : Ending → World → Prop} (h : Calls P f args (lay w []) R) : Calls P f args w R := h
theorem bq {P : Program} {f : FuncId} {args : Array Value} {W : World} {v : Value} {C : World → Prop}
    (h : Calls P f args W fun e w' => e = .returned v ∧ ∃ d, w' = bw W d) (hC : ∀ d, C (bw W d)) : Calls P f args W fun e w' => e = .returned v ∧ C w' :=
  h.mono fun _ _ ⟨he, d, hw⟩ => ⟨he, by rw [hw]; exact hC d⟩
theorem bqs {P : Program} {f : FuncId} {args : Array Value} {W : World} {v : Value} {C : World → Prop}
    (h : Calls P f args W fun e w' => e = .returned v ∧ w' = W) (hC : C W) : Calls P f args W fun e w' => e = .returned v ∧ C w' :=
  h.mono fun _ _ ⟨he, hw⟩ => ⟨he, by rw [hw]; exact hC⟩
theorem lay_join (w : World) (L : List (Obj ⊕ Ext)) (d e : Ext) : ∃ x, bw (lay w (.inr d :: L)) e = lay w (.inr x :: L) := ⟨_, bw_bw (lay w L) d e⟩
end Go.Proofs.YtnnmfdeeicpdlaaGreat
/- The step from a law's walk to its row: every argument reads behind the call as it did before; the result is true. -/
namespace Go.Proofs.YtnnmfdeeicpdlaaGreat
open Go.ChangeShapes Go.WideShapes Go.ChangeAt Go.RowKit Go.Joins

theorem ownKnob_none : ownKnob Tryz.prog.godebug = none := by kernel_rfl
theorem laid_out : laidOutB Tryz.prog = true := by kernel_rfl

theorem trodAll_stays {H : Type} {enc : TypeId × Value → H} {P : Program} (hl : laidOutB P = true) {W W' : World} (hb : Below W.heap.size W W') :
    ∀ (ts : List TypeId) (vs : List Value) (ds : List (DataW H)) (ps : List MemPlace), ts.all (fun t => P.readableRec t && decide (t < P.types.size)) = true →
    (∀ x ∈ ps, x.block < W.heap.size) → DataW.TrodAll enc P W 0 (fun _ => true) true ts vs ds ps → DataW.TrodAll enc P W' 0 (fun b => decide (b < W.heap.size)) true ts vs ds ps
  | [], vs, ds, ps, _, _, h => by cases vs <;> cases ds <;> simp_all [DataW.TrodAll]
  | t :: ts, vs, ds, ps, hr, hlt, h => by
    obtain ⟨v, vs', d, ds', p, q, rfl, rfl, rfl, h1, h2⟩ := trodAll_cons h
    simp only [List.all_cons, Bool.and_eq_true, decide_eq_true_eq] at hr
    exact ⟨p, q, Below.trod hl hr.1.1 hr.1.2 h1 hb (fun x hx => hlt x (List.mem_append_left _ hx)),
      trodAll_stays hl hb ts vs' ds' q hr.2 (fun x hx => hlt x (List.mem_append_right _ hx)) h2, rfl⟩

theorem law_post {H : Type} {enc : TypeId × Value → H} {P : Program} {f : Func} {s : ChangeSpec} {W W' : World} {args : Array Value} {ds : List (DataW H)} {before : List MemPlace} {tb : TypeId}
    (hl : laidOutB P = true) (hW : DataW.Whole enc P f.params.toList s.vars false W args.toList ds [] before) (hv : s.vars = [])
    (hs : s.fn H (ds ++ []) = { results := [.lit (.bool true)], args := ds }) (hrt : f.resultTypes = #[tb]) (htb : P.underlying tb = some .bool)
    (hr : f.params.toList.all (fun t => P.readableRec t && decide (t < P.types.size)) = true) (hb : Below W.heap.size W W') :
    s.post enc P f false true false false W args (.bool true) W' := by
  have hlt := hW.lt
  have hW' := hW
  obtain ⟨p, q, hA, hV, rfl, hfz, hnd⟩ := hW'
  rw [hv] at hV
  have hq : q = [] := by simpa [DataW.TrodVars] using hV
  subst hq
  simp only [List.append_nil] at hlt hW
  refine ⟨ds, [], p, [], p, [], hW, ?_, ?_, ?_, hb.frame _, fun h => by cases h⟩
  · rw [hs, hrt]
    exact ⟨[], [], shut_bool htb true, rfl, rfl⟩
  · rw [hs]
    exact trodAll_stays hl hb _ _ _ _ hr hlt hA
  · rw [hs, hv]
    rfl
end Go.Proofs.YtnnmfdeeicpdlaaGreat
/- A region that draws its order, with one 'alloc' that waits for nothing, quiet operations beside it, and a tail behind all of them. No program in sight. -/
namespace Go.Proofs.YtnnmfdeeicpdlaaGreat
open Go.RowKit

def extUpon (P : Program) (w : World) (v : Value) : Result Next → Prop
  | .ok (.value u) w' => w' = w ∧ u = v
  | .ok .skip w' => w' = w ∧ v = undef
  | .ok (.enter f args) w' => w' = w ∧ Calls P f args w (fun e w'' => e = .returned v ∧ ∃ d, w'' = bw w d)
  | _ => False
def extOp (P : Program) (o : Oper) (a : Act) (W : World) (next : Act → Prop) : Prop := ∃ v, (∀ d : Ext, extUpon P (bw W d) v ((execOp a.eval o).run P (bw W d))) ∧ next (a.put o.dst v)
attribute [go_sem] extOp extUpon

section
variable {P : Program} {ops : Array Oper} {md : Region.Mode} {W : World}
def Fresh (W : World) (obj : Obj) (p : Nat) (w : World) : Prop := (∃ d, w = bw W d) ∧ W.heap.size ≤ p ∧ w.heap[p]? = some obj
theorem Fresh.bw {obj : Obj} {p : Nat} {w : World} (h : Fresh W obj p w) (d : Ext) : Fresh W obj p (bw w d) := by
  obtain ⟨⟨e, rfl⟩, h2, h3⟩ := h
  exact ⟨⟨_, bw_bw W e d⟩, h2, (bw_get _ _ _ (Array.getElem?_eq_some_iff.1 h3).1).trans h3⟩

theorem Fresh.split {obj : Obj} {p : Nat} {w : World} (h : Fresh W obj p w) : ∃ d1 d2, w = Go.Proofs.YtnnmfdeeicpdlaaGreat.bw ((Go.Proofs.YtnnmfdeeicpdlaaGreat.bw W d1).alloc obj) d2 ∧ p = (Go.Proofs.YtnnmfdeeicpdlaaGreat.bw W d1).heap.size := by
  obtain ⟨⟨d, rfl⟩, h2, h3⟩ := h
  have h4 : d.blocks[p - W.heap.size]? = some obj := by
    simp only [Go.Proofs.YtnnmfdeeicpdlaaGreat.bw, Array.getElem?_append] at h3
    rwa [if_neg (by omega)] at h3
  obtain ⟨hk, h5⟩ := Array.getElem?_eq_some_iff.1 h4
  refine ⟨⟨d.blocks.extract 0 (p - W.heap.size), 0⟩, ⟨d.blocks.extract (p - W.heap.size + 1) d.blocks.size, d.drawn⟩, ?_, ?_⟩
  · show ({ W with heap := W.heap ++ d.blocks, drawn := d.drawn } : World) = { W with heap := (W.heap ++ d.blocks.extract 0 (p - W.heap.size)).push obj ++ d.blocks.extract (p - W.heap.size + 1) d.blocks.size, drawn := d.drawn }
    have e : W.heap ++ d.blocks = (W.heap ++ d.blocks.extract 0 (p - W.heap.size)).push obj ++ d.blocks.extract (p - W.heap.size + 1) d.blocks.size := by
      rw [← Array.append_push, Array.append_assoc]
      congr 1
      apply Array.ext_getElem?
      intro i
      simp only [Array.getElem?_append, Array.getElem?_push, Array.size_push, Array.size_extract, Array.getElem?_extract]
      by_cases h6 : i < p - W.heap.size
      · rw [if_pos (by omega), if_neg (by omega), if_pos (by omega)]; simp
      · by_cases h7 : i = p - W.heap.size
        · subst h7; rw [if_pos (by omega), if_pos (by omega), h4]
        · rw [if_neg (by omega)]
          by_cases h8 : i < d.blocks.size
          · rw [if_pos (by omega)]; congr 1; omega
          · rw [if_neg (by omega)]; exact Array.getElem?_eq_none (by omega)
    rw [e]
  · simp only [Go.Proofs.YtnnmfdeeicpdlaaGreat.bw, Array.size_append, Array.size_extract]; omega

end
/-! ### Two allocs -/
structure Harmless (ops : Array Oper) (o : Oper) (φ : Act → Act) : Prop where
  ev : ∀ a, execOp (φ a).eval o = execOp a.eval o
  wa : ∀ a, Region.wanted o (yielded ops (φ a).tmps) = Region.wanted o (yielded ops a.tmps)
  pu : ∀ a x, (φ a).put o.dst x = φ (a.put o.dst x)
theorem Harmless.id (ops : Array Oper) (o : Oper) : Harmless ops o (fun a => a) := ⟨fun _ => rfl, fun _ => rfl, fun _ _ => rfl⟩
theorem Harmless.put {ops : Array Oper} {o oA : Oper} {φ : Act → Act} (h : Harmless ops o φ) (hap : oA.apart ops o = true) (hs : ∀ cs b, o.op ≠ .select cs b) (u : Value) : Harmless ops o (fun a => (φ a).put oA.dst u) := by
  obtain ⟨q1, q2, _⟩ := Oper.apart_spec hap
  refine ⟨fun a => (execOp_put o hs (φ a) oA.dst u q1).trans (h.ev a), fun a => (wanted_put o (φ a) oA.dst u q1).trans (h.wa a), fun a x => ?_⟩
  show ((φ a).put oA.dst u).put o.dst x = (φ (a.put o.dst x)).put oA.dst u
  rw [← h.pu]
  exact Act.put_comm (φ a) u x q2
section
variable {P : Program} {ops : Array Oper} {md : Region.Mode} {W : World}
end
section
variable {P : Program} {ops : Array Oper} {md : Region.Mode} {W : World}
end
end Go.Proofs.YtnnmfdeeicpdlaaGreat
/- Regions that draw their order, in general: quiet operations in any order beside operations that change the world. A schedule says of each operation, in the text's order: 0: quiet (its value is the same in all worlds of a class, and it only adds to the world); 1: it alone may come now; 2: it and the next one may come now, in either order. No program in sight. -/
namespace Go.Proofs.YtnnmfdeeicpdlaaGreat
open Go.RowKit

def mUpon {κ : Type} (P : Program) (Cl : κ → World) (k : κ) (v : Value) : Result Next → Prop
  | .ok (.value u) w' => w' = Cl k ∧ u = v
  | .ok .skip w' => w' = Cl k ∧ v = undef
  | .ok (.enter f args) w' => w' = Cl k ∧ Calls P f args (Cl k) (fun e w'' => e = .returned v ∧ ∃ d, w'' = bw (Cl k) d)
  | _ => False
def mOp {κ : Type} (P : Program) (Cl : κ → World) (o : Oper) (a : Act) (next : Act → Prop) : Prop := ∃ v, (∀ k, mUpon P Cl k v ((execOp a.eval o).run P (Cl k))) ∧ next (a.put o.dst v)
def sUpon (P : Program) (K : Act → World → Prop) (a : Act) (dst : Option Tmp) : Result Next → Prop
  | .ok (.value u) w' => K (a.put dst u) w'
  | .ok .skip w' => K (a.put dst undef) w'
  | .ok (.enter f args) w' => Calls P f args w' (fun e w'' => ∃ v, e = .returned v ∧ K (a.put dst v) w'')
  | _ => False
def sOp (P : Program) (o : Oper) (a : Act) (K : Act → World → Prop) (w : World) : Prop := sUpon P K a o.dst ((execOp a.eval o).run P w)
attribute [go_sem] mUpon mOp sUpon sOp

section
variable {P : Program} {ops : Array Oper} {md : Region.Mode} {κ : Type} {Cl : κ → World}

def oneOp (P : Program) (ops : Array Oper) (i : Nat) (K : Act → World → Prop) (a : Act) (w : World) : Prop :=
  match ops[i]? with
  | none => K a w
  | some o => if Region.wanted o (yielded ops a.tmps) then sOp P o a K w else K (a.put o.dst undef) w
theorem oneOp_some {i : Nat} {o : Oper} {K : Act → World → Prop} {a : Act} {w : World} (hi : ops[i]? = some o) :
    oneOp P ops i K a w = if Region.wanted o (yielded ops a.tmps) then sOp P o a K w else K (a.put o.dst undef) w := by unfold oneOp; rw [hi]
theorem sOp_mono {o : Oper} {K K' : Act → World → Prop} {a : Act} {w : World} (h : ∀ a w, K a w → K' a w) (hh : sOp P o a K w) : sOp P o a K' w := by
  unfold sOp at *
  generalize (execOp a.eval o).run P w = r at *
  cases r with
  | ok nx w' =>
    cases nx <;> simp only [sUpon] at hh ⊢
    case value x => exact h _ _ hh
    case skip => exact h _ _ hh
    case enter f args => exact hh.mono fun e w'' ⟨v, he, hk⟩ => ⟨v, he, h _ _ hk⟩
  | halt x w' => simp only [sUpon] at hh
theorem oneOp_mono {i : Nat} {K K' : Act → World → Prop} {a : Act} {w : World} (h : ∀ a w, K a w → K' a w) (hh : oneOp P ops i K a w) : oneOp P ops i K' a w := by
  unfold oneOp at *
  split
  · rename_i ho; simp only [ho] at hh; exact h _ _ hh
  · rename_i o ho
    simp only [ho] at hh
    split
    · rename_i hw; rw [if_pos hw] at hh; exact sOp_mono h hh
    · rename_i hw; rw [if_neg hw] at hh; exact h _ _ hh
theorem wp_of_sOp {o : Oper} {K : Act → World → Prop} {Q' : Exit → Act → World → Prop} {a : Act} {w : World} (hh : sOp P o a K w) : o.wp P a w K Q' := by
  unfold sOp at hh
  unfold Oper.wp
  generalize (execOp a.eval o).run P w = r at *
  cases r with
  | ok nx w' =>
    cases nx <;> simp only [sUpon] at hh <;> simp only [Oper.upon]
    case value x => exact hh
    case skip => exact hh
    case enter f args => exact hh.mono fun e w'' ⟨v, he, hk⟩ => by subst he; exact hk
  | halt x w' => simp only [sUpon] at hh

def wpC (P : Program) (md : Region.Mode) (ops : Array Oper) (Cl : κ → World) (Q : Act → World → Prop) : Nat → Array Bool → Act → World → Prop
  | 0, listed, a, w => Region.ready md ops listed = [] ∧ ∀ d, Q a (bw w d)
  | f + 1, listed, a, w => Region.ready md ops listed ≠ [] ∧ ∀ i ∈ Region.ready md ops listed, ∀ d, oneOp P ops i (fun a' w' => (∃ k, w' = Cl k) ∧ wpC P md ops Cl Q f (listed.setIfInBounds i true) a' w') a (bw w d)
def noExt (w : World) : Ext := ⟨#[], w.drawn⟩
theorem bw_noExt (w : World) : bw w (noExt w) = w := by
  show ({ w with heap := w.heap ++ #[], drawn := w.drawn } : World) = w
  rw [Array.append_empty]
theorem wpC_ext {Q : Act → World → Prop} : ∀ {f : Nat} {listed : Array Bool} {a : Act} {w : World} (d : Ext), wpC P md ops Cl Q f listed a w → wpC P md ops Cl Q f listed a (bw w d)
  | 0, _, _, w, d, h => ⟨h.1, fun e => by rw [bw_bw]; exact h.2 _⟩
  | _ + 1, _, _, w, d, h => ⟨h.1, fun i hi e => by rw [bw_bw]; exact h.2 i hi _⟩
theorem wpC_sound {Q' : Exit → Act → World → Prop} : ∀ (f : Nat) (listed : Array Bool) (a : Act) (w : World), wpC P md ops Cl (fun a w => Q' .normal a w) f listed a w → wpAny P md ops Q' f listed a w
  | 0, listed, a, w, h => ⟨h.1, by have := h.2 (noExt w); rwa [bw_noExt] at this⟩
  | f + 1, listed, a, w, h => by
    refine ⟨fun h0 => absurd h0 h.1, fun i hi => ?_⟩
    have h1 := h.2 i hi (noExt w)
    rw [bw_noExt] at h1
    unfold oneOp at h1
    unfold wpOp
    split
    · rename_i ho; simp only [ho] at h1; exact wpC_sound f _ _ _ h1.2
    · rename_i o ho
      simp only [ho] at h1
      split
      · rename_i hw; rw [if_pos hw] at h1
        exact Or.inl (wp_of_sOp (sOp_mono (fun a w hk => wpC_sound f _ a w hk.2) h1))
      · rename_i hw; rw [if_neg hw] at h1; exact wpC_sound f _ _ _ h1.2

def YieldsM (P : Program) (ops : Array Oper) (Cl : κ → World) (o : Oper) (v : Value) (a : Act) : Prop :=
  (Region.wanted o (yielded ops a.tmps) = true ∧ ∀ k, mUpon P Cl k v ((execOp a.eval o).run P (Cl k))) ∨ (Region.wanted o (yielded ops a.tmps) = false ∧ v = undef)
theorem YieldsM.oneOp {i : Nat} {o : Oper} {v : Value} {a : Act} {w : World} (hi : ops[i]? = some o) (hy : YieldsM P ops Cl o v a) (hw : ∃ k, w = Cl k) {K : Act → World → Prop}
    (h0 : K (a.put o.dst v) w) (h : ∀ d, K (a.put o.dst v) (bw w d)) : Go.Proofs.YtnnmfdeeicpdlaaGreat.oneOp P ops i K a w := by
  rw [oneOp_some hi]
  rcases hy with ⟨hw1, hv⟩ | ⟨hw1, rfl⟩
  · rw [if_pos hw1]
    obtain ⟨k, rfl⟩ := hw
    have h3 := hv k
    unfold sOp
    generalize (execOp a.eval o).run P (Cl k) = r at *
    cases r with
    | ok nx w' =>
      cases nx <;> simp only [mUpon] at h3 <;> simp only [sUpon]
      case value x => obtain ⟨e1, e2⟩ := h3; rw [e1, e2]; exact h0
      case skip => obtain ⟨e1, e2⟩ := h3; rw [e1, ← e2]; exact h0
      case enter f args =>
        obtain ⟨e1, hc⟩ := h3
        rw [e1]
        exact hc.mono fun e w'' ⟨he, d, hd⟩ => ⟨v, he, by rw [hd]; exact h d⟩
    | halt x w' => simp only [mUpon] at h3
  · rw [if_neg (by rw [hw1]; exact Bool.false_ne_true)]; exact h0
theorem YieldsM.keep {oi oj : Oper} {v : Value} {a : Act} (hsi : ∀ cs b, oi.op ≠ .select cs b) (h3 : ∀ d, oj.dst = some d → d ∉ oi.looksAt ops) (hy : YieldsM P ops Cl oi v a) (u : Value) : YieldsM P ops Cl oi v (a.put oj.dst u) := by
  unfold YieldsM at *
  rw [execOp_put oi hsi a oj.dst u h3, wanted_put oi a oj.dst u h3]
  exact hy
theorem oneOp_put {j : Nat} {oi oj : Oper} {v : Value} {w : World} (hj : ops[j]? = some oj) (hap : oi.apart ops oj = true)
    (hsi : ∀ cs b, oi.op ≠ .select cs b) (hsj : ∀ cs b, oj.op ≠ .select cs b) {K : Act → World → Prop} {a : Act}
    (hy : YieldsM P ops Cl oi v a) (h : oneOp P ops j K (a.put oi.dst v) w) :
    oneOp P ops j (fun a' w' => YieldsM P ops Cl oi v a' ∧ K (a'.put oi.dst v) w') a w := by
  obtain ⟨h1, h2, h3⟩ := Oper.apart_spec hap
  rw [oneOp_some hj, wanted_put oj a oi.dst v h1] at h
  rw [oneOp_some hj]
  split
  · rename_i hw
    rw [if_pos hw] at h
    unfold sOp at *
    rw [execOp_put oj hsj a oi.dst v h1] at h
    generalize (execOp a.eval oj).run P w = r at *
    cases r with
    | ok nx w' =>
      cases nx <;> simp only [sUpon] at h ⊢
      case value x => exact ⟨hy.keep hsi h3 _, by rw [← Act.put_comm a v x h2]; exact h⟩
      case skip => exact ⟨hy.keep hsi h3 _, by rw [← Act.put_comm a v undef h2]; exact h⟩
      case enter f args => exact h.mono fun e w'' ⟨u, he, hk⟩ => ⟨u, he, hy.keep hsi h3 _, by rw [← Act.put_comm a v u h2]; exact hk⟩
    | halt x w' => simp only [sUpon] at h
  · rename_i hw
    rw [if_neg hw] at h
    exact ⟨hy.keep hsi h3 _, by rw [← Act.put_comm a v undef h2]; exact h⟩

theorem wpC_first {i : Nat} {oi : Oper} {v : Value} {Q : Act → World → Prop} (hCl : ∀ k d, ∃ k', bw (Cl k) d = Cl k') (hi : ops[i]? = some oi) (hsel : ∀ (j : Nat) (o : Oper) cs b, ops[j]? = some o → o.op ≠ .select cs b) :
    ∀ (f : Nat) (listed : Array Bool) (a : Act) (w : World), (∃ k, w = Cl k) →
      (∀ j oj, ops[j]? = some oj → j ≠ i → listed.getD j true = false → (∀ e ∈ oj.after, Region.binds md e = true → e.on ≠ i) → oi.apart ops oj = true) →
      i ∈ Region.ready md ops listed → YieldsM P ops Cl oi v a →
      wpC P md ops Cl Q f (listed.setIfInBounds i true) (a.put oi.dst v) w → wpC P md ops Cl Q (f + 1) listed a w := by
  have cl : ∀ w d, (∃ k, w = Cl k) → ∃ k, bw w d = Cl k := fun w d ⟨k, hk⟩ => by rw [hk]; exact hCl k d
  intro f
  induction f with
  | zero =>
    intro listed a w hw _ hr hy H
    refine ⟨List.ne_nil_of_mem hr, fun j hj d => ?_⟩
    by_cases hji : j = i
    · subst hji
      exact hy.oneOp hi (cl w d hw) ⟨cl w d hw, wpC_ext d H⟩ (fun e => ⟨cl _ e (cl w d hw), wpC_ext e (wpC_ext d H)⟩)
    · have := ready_mono hj hji
      rw [H.1] at this; cases this
  | succ f ih =>
    intro listed a w hw hfree hr hy H
    have hun := (mem_ready.1 hr).1
    refine ⟨List.ne_nil_of_mem hr, fun j hj d => ?_⟩
    by_cases hji : j = i
    · subst hji
      exact hy.oneOp hi (cl w d hw) ⟨cl w d hw, wpC_ext d H⟩ (fun e => ⟨cl _ e (cl w d hw), wpC_ext e (wpC_ext d H)⟩)
    · have h1 := H.2 j (ready_mono hj hji) d
      obtain ⟨hjun, oj, hoj, hall⟩ := mem_ready.1 hj
      have hnot : ∀ e ∈ oj.after, Region.binds md e = true → e.on ≠ i := fun e he hb heq => by
        have h2 := hall e he hb
        have h3 : listed.getD i false = false := by
          rcases Nat.lt_or_ge i listed.size with h' | h'
          · simp [h'] at hun ⊢; exact hun
          · simp [Array.getElem?_eq_none h'] at hun
        rw [heq, h3] at h2
        cases h2
      have h2 := oneOp_put hoj (hfree j oj hoj hji hjun hnot) (fun cs b => hsel i oi cs b hi) (fun cs b => hsel j oj cs b hoj) hy h1
      have hfree' : ∀ k ok, ops[k]? = some ok → k ≠ i → (listed.setIfInBounds j true).getD k true = false →
          (∀ e ∈ ok.after, Region.binds md e = true → e.on ≠ i) → oi.apart ops ok = true := fun k ok hk hki hu hno => by
        refine hfree k ok hk hki ?_ hno
        by_cases hjk : j = k
        · subst hjk; exact hjun
        · rw [getD_set_ne true hjk] at hu; exact hu
      refine oneOp_mono (fun a' w' h3 => ⟨h3.2.1, ih (listed.setIfInBounds j true) a' w' h3.2.1 hfree' (ready_mono hr (Ne.symm hji)) h3.1 ?_⟩) h2
      rw [Array.setIfInBounds_comm _ _ hji]
      exact h3.2.2

def wpM (P : Program) (ops : Array Oper) (Cl : κ → World) (Q : Act → World → Prop) : List Nat → List Oper → Act → World → Prop
  | 0 :: s, o :: l, a, w => if Region.wanted o (yielded ops a.tmps) then mOp P Cl o a (fun a' => wpM P ops Cl Q s l a' w) else wpM P ops Cl Q s l (a.put o.dst undef) w
  | 1 :: s, o :: l, a, w => ∀ d, if Region.wanted o (yielded ops a.tmps) then sOp P o a (fun a' w' => (∃ k, w' = Cl k) ∧ wpM P ops Cl Q s l a' w') (bw w d) else (∃ k, bw w d = Cl k) ∧ wpM P ops Cl Q s l (a.put o.dst undef) (bw w d)
  | 2 :: s, o1 :: o2 :: l, a, w =>
    (∀ d, sOp P o1 a (fun a' w' => (∃ k, w' = Cl k) ∧ ∀ d', sOp P o2 a' (fun a'' w'' => (∃ k, w'' = Cl k) ∧ wpM P ops Cl Q s l a'' w'') (bw w' d')) (bw w d)) ∧
    (∀ d, sOp P o2 a (fun a' w' => (∃ k, w' = Cl k) ∧ ∀ d', sOp P o1 a' (fun a'' w'' => (∃ k, w'' = Cl k) ∧ wpM P ops Cl Q s l a'' w'') (bw w' d')) (bw w d))
  | _, [], a, w => ∀ d, Q a (bw w d)
  | _, _, _, _ => False
def lexM (md : Region.Mode) (ops : Array Oper) : List Nat → Nat → Array Bool → Bool
  | [], k, listed => decide (k = ops.size) && (Region.ready md ops listed).isEmpty
  | 0 :: s, k, listed => decide (k < ops.size) && (Region.ready md ops listed).contains k && Region.free md ops listed k && lexM md ops s (k + 1) (listed.setIfInBounds k true)
  | 1 :: s, k, listed => decide (k < ops.size) && decide (Region.ready md ops listed = [k]) && lexM md ops s (k + 1) (listed.setIfInBounds k true)
  | 2 :: s, k, listed => decide (k + 1 < ops.size) && decide (Region.ready md ops listed = [k, k + 1]) && decide (Region.ready md ops (listed.setIfInBounds k true) = [k + 1]) && decide (Region.ready md ops (listed.setIfInBounds (k + 1) true) = [k]) &&
    (match ops[k]?, ops[k + 1]? with | some o1, some o2 => o1.guard.isNone && o2.guard.isNone | _, _ => false) && lexM md ops s (k + 2) ((listed.setIfInBounds k true).setIfInBounds (k + 1) true)
  | _, _, _ => false

theorem wpC_of_wpM {Q : Act → World → Prop} (hCl : ∀ k d, ∃ k', bw (Cl k) d = Cl k') (hsel : Region.noSelect ops = true) :
    ∀ (s : List Nat) (l : List Oper) (k : Nat) (listed : Array Bool) (a : Act) (w : World), (∀ j, l[j]? = ops[k + j]?) → (∃ k, w = Cl k) → lexM md ops s k listed = true →
    wpM P ops Cl Q s l a w → wpC P md ops Cl Q l.length listed a w
  | [], l, k, listed, a, w, hl, hw, hB, h => by
    simp only [lexM, Bool.and_eq_true, decide_eq_true_eq, List.isEmpty_iff] at hB
    have : l = [] := by
      cases l with
      | nil => rfl
      | cons o l => have := hl 0; rw [Nat.add_zero, hB.1, Array.getElem?_eq_none (Nat.le_refl _)] at this; simp at this
    subst this
    exact ⟨hB.2, h⟩
  | 0 :: s, l, k, listed, a, w, hl, hw, hB, h => by
    simp only [lexM, Bool.and_eq_true, decide_eq_true_eq] at hB
    obtain ⟨⟨⟨hk, hr⟩, hf⟩, hB'⟩ := hB
    cases l with
    | nil => have := hl 0; rw [Nat.add_zero, Array.getElem?_eq_getElem hk] at this; simp at this
    | cons o l =>
      have h0 : ops[k]? = some o := by simpa using (hl 0).symm
      have hr' : k ∈ Region.ready md ops listed := by simpa using hr
      have hy : ∃ v, YieldsM P ops Cl o v a ∧ wpM P ops Cl Q s l (a.put o.dst v) w := by
        simp only [wpM] at h
        by_cases hw1 : Region.wanted o (yielded ops a.tmps) = true
        · rw [if_pos hw1] at h
          obtain ⟨v, h1, h2⟩ := h
          exact ⟨v, .inl ⟨hw1, h1⟩, h2⟩
        · rw [if_neg hw1] at h
          exact ⟨undef, .inr ⟨by simpa using hw1, rfl⟩, h⟩
      obtain ⟨v, hy, hK⟩ := hy
      exact wpC_first hCl h0 (Region.noSelect_spec hsel) l.length listed a w hw (Region.free_spec h0 hf) hr' hy
        (wpC_of_wpM hCl hsel s l (k + 1) _ _ w (fun j => by have := hl (j + 1); simpa [Nat.add_assoc, Nat.add_comm 1 j] using this) hw hB' hK)
  | 1 :: s, l, k, listed, a, w, hl, hw, hB, h => by
    simp only [lexM, Bool.and_eq_true, decide_eq_true_eq] at hB
    obtain ⟨⟨hk, hr⟩, hB'⟩ := hB
    cases l with
    | nil => have := hl 0; rw [Nat.add_zero, Array.getElem?_eq_getElem hk] at this; simp at this
    | cons o l =>
      have h0 : ops[k]? = some o := by simpa using (hl 0).symm
      have hl' : ∀ j, l[j]? = ops[k + 1 + j]? := fun j => by have := hl (j + 1); simpa [Nat.add_assoc, Nat.add_comm 1 j] using this
      refine ⟨by rw [hr]; simp, fun i hi d => ?_⟩
      rw [hr] at hi
      obtain rfl : i = k := by simpa using hi
      simp only [wpM] at h
      have hd := h d
      rw [oneOp_some h0]
      split
      · rename_i hw1; rw [if_pos hw1] at hd
        exact sOp_mono (fun a' w' hk => ⟨hk.1, wpC_of_wpM hCl hsel s l (i + 1) _ _ w' hl' hk.1 hB' hk.2⟩) hd
      · rename_i hw1; rw [if_neg hw1] at hd
        exact ⟨hd.1, wpC_of_wpM hCl hsel s l (i + 1) _ _ _ hl' hd.1 hB' hd.2⟩
  | 2 :: s, l, k, listed, a, w, hl, hw, hB, h => by
    simp only [lexM, Bool.and_eq_true, decide_eq_true_eq] at hB
    obtain ⟨⟨⟨⟨⟨hk, hr⟩, hr1⟩, hr2⟩, hg⟩, hB'⟩ := hB
    match l with
    | [] => have := hl 0; rw [Nat.add_zero, Array.getElem?_eq_getElem (by omega)] at this; simp at this
    | [o] => have := hl 1; rw [Array.getElem?_eq_getElem hk] at this; simp at this
    | o1 :: o2 :: l =>
      have h1 : ops[k]? = some o1 := by simpa using (hl 0).symm
      have h2 : ops[k + 1]? = some o2 := by simpa using (hl 1).symm
      have hl' : ∀ j, l[j]? = ops[k + 2 + j]? := fun j => by have := hl (j + 2); simpa [Nat.add_assoc, Nat.add_comm 2 j] using this
      rw [h1, h2] at hg
      simp only [Bool.and_eq_true, Option.isNone_iff_eq_none] at hg
      have wa : ∀ a, Region.wanted o1 (yielded ops a) = true := fun a => by simp [Region.wanted, hg.1]
      have wb : ∀ a, Region.wanted o2 (yielded ops a) = true := fun a => by simp [Region.wanted, hg.2]
      simp only [wpM] at h
      refine ⟨by rw [hr]; simp, fun i hi d => ?_⟩
      rw [hr] at hi
      simp only [List.mem_cons, List.not_mem_nil, or_false] at hi
      rcases hi with rfl | rfl
      · rw [oneOp_some h1, if_pos (wa _)]
        refine sOp_mono (fun a' w' hk => ⟨hk.1, by rw [hr1]; simp, fun j hj e => ?_⟩) (h.1 d)
        rw [hr1] at hj
        obtain rfl : j = i + 1 := by simpa using hj
        rw [oneOp_some h2, if_pos (wb _)]
        exact sOp_mono (fun a'' w'' hk' => ⟨hk'.1, wpC_of_wpM hCl hsel s l (i + 2) _ _ w'' hl' hk'.1 hB' hk'.2⟩) (hk.2 e)
      · rw [oneOp_some h2, if_pos (wb _)]
        refine sOp_mono (fun a' w' hq => ⟨hq.1, by rw [hr2]; simp, fun j hj e => ?_⟩) (h.2 d)
        rw [hr2] at hj
        obtain rfl : j = k := by simpa using hj
        rw [oneOp_some h1, if_pos (wa _)]
        refine sOp_mono (fun a'' w'' hk' => ⟨hk'.1, wpC_of_wpM hCl hsel s l (j + 2) _ _ w'' hl' hk'.1 ?_ hk'.2⟩) (hq.2 e)
        rw [Array.setIfInBounds_comm _ _ (by omega)]; exact hB'
  | (_ + 3) :: _, _, _, _, _, _, _, _, hB, _ => by simp [lexM] at hB

theorem region_mix {id : Nat} {Q : Exit → Act → World → Prop} {a : Act} {w : World} {l : List Oper} (s : List Nat) (Cl : κ → World) (hm : P.follows .mixedOrders = true) (hsel : Region.noSelect l.toArray = true)
    (hB : lexM .any l.toArray s 0 (Array.replicate l.toArray.size false) = true) (hCl : ∀ k d, ∃ k', bw (Cl k) d = Cl k') (hw : ∃ k, w = Cl k)
    (h : wpM P l.toArray Cl (fun a w => Q .normal a w) s l a w) : (Code.region id l.toArray true).wp P Q a w := by
  refine wp_region_any hm ?_
  have := wpC_of_wpM (md := .any) hCl hsel s l 0 _ a w (fun j => by simp) hw hB h
  have := wpC_ext (⟨#[], w.drawn + 1⟩ : Ext) this
  rw [← bw_drewExt] at this
  have := wpC_sound (Q' := Q) _ _ _ _ this
  simpa using this
theorem region_mixW {id : Nat} {Q : Exit → Act → World → Prop} {a : Act} {w : World} {l : List Oper} (s : List Nat) (hm : P.follows .mixedOrders = true) (hsel : Region.noSelect l.toArray = true)
    (hB : lexM .any l.toArray s 0 (Array.replicate l.toArray.size false) = true)
    (h : wpM P l.toArray (fun d => bw w d) (fun a w => Q .normal a w) s l a w) : (Code.region id l.toArray true).wp P Q a w :=
  region_mix s (fun d => bw w d) hm hsel hB (fun k d => ⟨_, bw_bw w k d⟩) ⟨noExt w, (bw_noExt w).symm⟩ h

theorem wpM_quiet {Q : Act → World → Prop} {a : Act} {w : World} {o : Oper} {l : List Oper} {s : List Nat}
    (h : ∀ K : Act → Prop, (∀ a, wpM P ops Cl Q s l a w → K a) → if Region.wanted o (yielded ops a.tmps) then mOp P Cl o a K else K (a.put o.dst undef)) : wpM P ops Cl Q (0 :: s) (o :: l) a w :=
  h _ (fun _ h => h)
theorem wpM_special {Q : Act → World → Prop} {a : Act} {w : World} {o : Oper} {l : List Oper} {s : List Nat}
    (h : ∀ (K : Act → World → Prop), (∀ a' w', (∃ k, w' = Cl k) → wpM P ops Cl Q s l a' w' → K a' w') → ∀ d, if Region.wanted o (yielded ops a.tmps) then sOp P o a K (bw w d) else K (a.put o.dst undef) (bw w d)) : wpM P ops Cl Q (1 :: s) (o :: l) a w := fun d => by
  have := h (fun a' w' => (∃ k, w' = Cl k) ∧ wpM P ops Cl Q s l a' w') (fun _ _ h1 h2 => ⟨h1, h2⟩) d
  split
  · rename_i hw; rw [if_pos hw] at this; exact this
  · rename_i hw; rw [if_neg hw] at this; exact this
theorem wpM_two {Q : Act → World → Prop} {a : Act} {w : World} {o1 o2 : Oper} {l : List Oper} {s : List Nat}
    (h1 : ∀ (J : Act → World → Prop), (∀ a' w', (∃ k, w' = Cl k) → (∀ (K : Act → World → Prop), (∀ a'' w'', (∃ k, w'' = Cl k) → wpM P ops Cl Q s l a'' w'' → K a'' w'') → ∀ d, sOp P o2 a' K (bw w' d)) → J a' w') → ∀ d, sOp P o1 a J (bw w d))
    (h2 : ∀ (J : Act → World → Prop), (∀ a' w', (∃ k, w' = Cl k) → (∀ (K : Act → World → Prop), (∀ a'' w'', (∃ k, w'' = Cl k) → wpM P ops Cl Q s l a'' w'' → K a'' w'') → ∀ d, sOp P o1 a' K (bw w' d)) → J a' w') → ∀ d, sOp P o2 a J (bw w d)) :
    wpM P ops Cl Q (2 :: s) (o1 :: o2 :: l) a w :=
  ⟨h1 _ fun _ _ hc hk => ⟨hc, fun d => hk _ (fun _ _ c h => ⟨c, h⟩) d⟩, h2 _ fun _ _ hc hk => ⟨hc, fun d => hk _ (fun _ _ c h => ⟨c, h⟩) d⟩⟩
theorem wpM_nil {Q : Act → World → Prop} {a : Act} {w : World} (h : ∀ d, Q a (bw w d)) : wpM P ops Cl Q [] [] a w := h
end
theorem lay_append (w : World) (L : List (Obj ⊕ Ext)) : ∀ L1, lay w (L1 ++ L) = lay (lay w L) L1
  | [] => rfl
  | .inl o :: L1 => by show (lay w (L1 ++ L)).alloc o = (lay (lay w L) L1).alloc o; rw [lay_append w L L1]
  | .inr d :: L1 => by show bw (lay w (L1 ++ L)) d = bw (lay (lay w L) L1) d; rw [lay_append w L L1]
theorem lay_fold (w : World) (L1 L : List (Obj ⊕ Ext)) : ∃ e, lay w (L1 ++ L) = lay w (.inr e :: L) := by
  obtain ⟨e, he⟩ := lay_ex (lay w L) L1
  exact ⟨e, (lay_append w L L1).trans he⟩
theorem lay_all (w : World) (L : List (Obj ⊕ Ext)) : ∃ e, lay w L = lay w [.inr e] := by
  obtain ⟨e, he⟩ := lay_ex w L
  exact ⟨e, he⟩
theorem lay_in (w : World) (L1 L : List (Obj ⊕ Ext)) : ∃ d, lay w (L1 ++ L) = bw (lay w L) d := by
  induction L1 with
  | nil => exact ⟨noExt _, (bw_noExt _).symm⟩
  | cons x L1 ih =>
    obtain ⟨d, hd⟩ := ih
    cases x with
    | inl o =>
      obtain ⟨e, he⟩ := bw_of ((bw_below (lay w L) d).alloc (bw_le _ d) o)
      exact ⟨e, by show (lay w (L1 ++ L)).alloc o = _; rw [hd]; exact he⟩
    | inr e => exact ⟨_, by show bw (lay w (L1 ++ L)) e = _; rw [hd]; exact bw_bw _ _ _⟩
end Go.Proofs.YtnnmfdeeicpdlaaGreat
/- A cell that keeps its value: storing what is there changes nothing. No program in sight. -/
namespace Go.Proofs.YtnnmfdeeicpdlaaGreat
open Go.RowKit

theorem set_same {W : World} {b i : Nat} {v : Value} (h : W.cell? ⟨b, i, none⟩ = some v) : W.setCell ⟨b, i, none⟩ v = W := by
  have hh : W.heap.modify b (fun o => match o with | .cells c elem frozen => .cells (if (none : Option Nat).isSome then c else c.setIfInBounds i v) elem frozen | o => o) = W.heap := by
    refine Array.ext (by simp) fun j h1 h2 => ?_
    rw [Array.getElem_modify]
    split
    · rename_i e
      subst e
      unfold World.cell? at h
      rw [Array.getElem?_eq_getElem h2] at h
      dsimp only at h
      split at h
      · rename_i c e f he
        rw [Option.some.injEq] at he
        rw [he]
        simp only [Option.isSome_none, Bool.false_eq_true, if_false] at h ⊢
        obtain ⟨hi, hv⟩ := Array.getElem?_eq_some_iff.1 h
        rw [Array.setIfInBounds_def, dif_pos hi, ← hv, Array.set_getElem_self]
      · cases h
    · rfl
  obtain ⟨heap, tape, drawn, os, output⟩ := W
  unfold World.setCell
  dsimp only at hh ⊢
  exact congrArg (fun x => ({ heap := x, tape := tape, drawn := drawn, os := os, output := output } : World)) hh
structure ChW (b : Nat) (W : World) : Prop where
  lt : b < W.heap.size
  cell : W.cell? ⟨b, 0, none⟩ = some (.int .i64 0)
  froz : W.frozen? ⟨b, 0, none⟩ = false
theorem ChW.ext {b : Nat} {W W' : World} (h : ChW b W) (hb : Below W.heap.size W W') : ChW b W' :=
  ⟨Nat.lt_of_lt_of_le h.lt hb.size, (hb.cell (p := ⟨b, 0, none⟩) h.lt).trans h.cell, (hb.frozen (p := ⟨b, 0, none⟩) h.lt).trans h.froz⟩
theorem ChW.bw {b : Nat} {W : World} (h : ChW b W) (d : Ext) : ChW b (bw W d) := h.ext (bw_below W d)
theorem ChW.lay {b : Nat} {W : World} (h : ChW b W) (L : List (Obj ⊕ Ext)) : ChW b (lay W L) := h.ext (lay_extends W L)
theorem ChW.set {b : Nat} {W : World} (h : ChW b W) : W.setCell ⟨b, 0, none⟩ (.int .i64 0) = W := set_same h.cell
theorem ChW.on {b : Nat} {w : World} {L : List (Obj ⊕ Ext)} (h : ChW b (Go.Proofs.YtnnmfdeeicpdlaaGreat.lay w L)) (L' : List (Obj ⊕ Ext)) : ChW b (Go.Proofs.YtnnmfdeeicpdlaaGreat.lay w (L' ++ L)) := by
  rw [lay_append]
  exact h.lay L'
theorem chW_new (w : World) (L : List (Obj ⊕ Ext)) (t : TypeId) (p : List Nat) (hp : shp L = p) : ChW (posn w p) (lay w (.inl (Obj.cells #[.int .i64 0] t) :: L)) := by
  subst hp
  have hg : (lay w (.inl (Obj.cells #[.int .i64 0] t) :: L)).heap[posn w (shp L)]? = some (Obj.cells #[.int .i64 0] t) := lay_get w (.inl (Obj.cells #[.int .i64 0] t) :: L) 0 _ rfl
  refine ⟨(Array.getElem?_eq_some_iff.1 hg).1, ?_, ?_⟩
  · unfold World.cell?; dsimp only; rw [hg]; rfl
  · unfold World.frozen?; dsimp only; rw [hg]; rfl
end Go.Proofs.YtnnmfdeeicpdlaaGreat
/- Plain facts on integers: quotients rounded down and up, as Go reckons them. No program in sight. -/
namespace Go.Proofs.YtnnmfdeeicpdlaaGreat
theorem floor_neg {a b : Int} (hb : 1 ≤ b) (h : a.tmod b < 0) : a.tdiv b - 1 = a / b := by
  have h1 := Int.tmod_add_mul_tdiv a b
  have h2 : -b < a.tmod b := by have := Int.lt_tmod_of_pos a (by omega : 0 < b); omega
  symm
  rw [Int.ediv_eq_iff_of_pos (by omega), Int.sub_mul, Int.mul_comm (a.tdiv b) b]
  omega
theorem floor_pos {a b : Int} (hb : 1 ≤ b) (h : 0 ≤ a.tmod b) : a.tdiv b = a / b := by
  have h1 := Int.tmod_add_mul_tdiv a b
  have h2 : a.tmod b < b := Int.tmod_lt_of_pos a (by omega)
  symm
  rw [Int.ediv_eq_iff_of_pos (by omega), Int.mul_comm (a.tdiv b) b]
  omega
theorem ediv_bd {a b : Int} (hb : 1 ≤ b) (L : Int) (h0 : 0 ≤ L) (h1 : -L ≤ a) (h2 : a ≤ L) : -L ≤ a / b ∧ a / b ≤ L := by
  constructor
  · rw [Int.le_ediv_iff_mul_le (by omega)]
    have : L * 1 ≤ L * b := Int.mul_le_mul_of_nonneg_left hb h0
    rw [Int.neg_mul]; omega
  · rcases Int.lt_or_le a 0 with h | h
    · have := Int.ediv_neg_of_neg_of_pos h (show 0 < b by omega); omega
    · have := Int.ediv_le_self b h; omega
end Go.Proofs.YtnnmfdeeicpdlaaGreat
/- Contracts of package angle and of its reference, as far as the translation has them. -/
namespace Go.Proofs.YtnnmfdeeicpdlaaGreat
set_option maxHeartbeats 400000
open Go.RowKit

def fitsB (n : Int) : Bool := decide (-1099511627776 ≤ n ∧ n ≤ 1099511627776)
theorem fits_yes {n : Int} (h1 : -1099511627776 ≤ n) : decide (n ≤ 1099511627776) = fitsB n := by
  unfold fitsB; simp [h1]
theorem fits_no {n : Int} (h1 : n < -1099511627776) : false = fitsB n := by
  unfold fitsB; simp; omega
def validB (lo hi : Int) : Bool := decide (lo ≤ hi ∧ -1099511627776 ≤ lo ∧ hi ≤ 1099511627776)
theorem validB_iff {lo hi : Int} : validB lo hi = true ↔ lo ≤ hi ∧ -1099511627776 ≤ lo ∧ hi ≤ 1099511627776 := by simp [validB]
theorem validB_eq {lo hi : Int} : validB lo hi = (decide (lo ≤ hi) && fitsB lo && fitsB hi) := by
  rw [Bool.eq_iff_iff]; simp [validB, fitsB]; omega
theorem angle_fits (n : Int) (w : World) :
    Calls Tryz.prog 115 #[.int .i64 n] w fun e w' => e = .returned (.bool (fitsB n)) ∧ w' = w := by
  go_enter Tryz.func115, Tryz.ntmps115
  go_wp2
  · go_ret
    exact ⟨ret_bool (fits_yes ‹_›), rfl⟩
  · go_ret
    exact ⟨ret_bool (fits_no ‹_›), rfl⟩
theorem valid_ways1 {lo hi : Int} (h : lo ≤ hi) (h2 : fitsB lo = true) : fitsB hi = validB lo hi := by simp [validB_eq, *]
theorem valid_ways2 {lo hi : Int} (h2 : ¬ fitsB lo = true) : false = validB lo hi := by simp [validB_eq, *]
theorem valid_ways3 {lo hi : Int} (h2 : hi < lo) : false = validB lo hi := by
  have : ¬ lo ≤ hi := by omega
  simp [validB_eq, *]
theorem angle_Valid (lo hi : Int) (w : World) :
    Calls Tryz.prog 39 #[(.agg #[.int .i64 (lo), .int .i64 (hi)])] w fun e w' => e = .returned (.bool (validB lo hi)) ∧ ∃ d, w' = bw w d := by
  refine lay_start ?_
  go_enter Tryz.func39, Tryz.ntmps39
  go_wp2_with (go_at_call 115; refine (angle_fits _ _).mono ?_; rintro e w' ⟨rfl, rfl⟩)
  all_goals go_ret
  all_goals exact ⟨ret_bool (by first | exact valid_ways1 ‹_› ‹_› | exact valid_ways2 ‹_› | exact valid_ways3 ‹_›), lay_ex _ _⟩
theorem ref05_Valid (lo hi : Int) (w : World) :
    Calls Tryz.prog 50 #[(.agg #[.int .i64 (lo), .int .i64 (hi)])] w fun e w' => e = .returned (.bool (validB lo hi)) ∧ ∃ d, w' = bw w d := by
  refine lay_start ?_
  go_enter Tryz.func50, Tryz.ntmps50
  go_wp2
  all_goals go_ret
  all_goals exact ⟨ret_bool (by rw [Bool.eq_iff_iff]; simp [validB]; omega), lay_ex _ _⟩
def mn (x y : Int) : Int := if y < x then y else x
def mx (x y : Int) : Int := if x < y then y else x
theorem mn_eq (x y : Int) : mn x y = min x y := by unfold mn; split <;> omega
theorem mx_eq (x y : Int) : mx x y = max x y := by unfold mx; split <;> omega
section
variable {P : Program} {w : World}
theorem run_mn (ts : Array TypeId) (t : TypeId) (k k' : IntKind) (x y : Int) : (Builtin.min_ ts t #[.int k x, .int k' y]).run P w = .ok (.int k (mn x y)) w := run_min_int2 w ts t k k' x y
theorem run_mx (ts : Array TypeId) (t : TypeId) (k k' : IntKind) (x y : Int) : (Builtin.max_ ts t #[.int k x, .int k' y]).run P w = .ok (.int k (mx x y)) w := run_max_int2 w ts t k k' x y
end
attribute [go_sem ↓] run_mn run_mx

theorem ref05_Meet (x0 y0 x1 y1 : Int) (w : World) :
    Calls Tryz.prog 138 #[(.agg #[.int .i64 (x0), .int .i64 (y0)]), (.agg #[.int .i64 (x1), .int .i64 (y1)])] w fun e w' => e = .returned (.agg #[.int .i64 (mx x0 x1), .int .i64 (mn y0 y1)]) ∧ ∃ d, w' = bw w d := by
  refine lay_start ?_
  go_enter Tryz.func138, Tryz.ntmps138
  go_wp2
  all_goals exact bodyPost_ret (v := (.agg #[.int .i64 (mx x0 x1), .int .i64 (mn y0 y1)])) (by simp [results, Tryz.results138, go_sem, mn, mx]; omega) rfl ⟨rfl, lay_ex _ _⟩
def meetsB (x0 y0 x1 y1 : Int) : Bool := decide (x0 ≤ y1 ∧ x1 ≤ y0)
theorem ref05_Meets (x0 y0 x1 y1 : Int) (w : World) :
    Calls Tryz.prog 137 #[(.agg #[.int .i64 (x0), .int .i64 (y0)]), (.agg #[.int .i64 (x1), .int .i64 (y1)])] w fun e w' => e = .returned (.bool (meetsB x0 y0 x1 y1)) ∧ ∃ d, w' = bw w d := by
  refine lay_start ?_
  go_enter Tryz.func137, Tryz.ntmps137
  go_wp2
  all_goals go_ret
  all_goals exact ⟨ret_bool (by rw [Bool.eq_iff_iff]; simp [meetsB]; omega), lay_ex _ _⟩
def turnLo (x0 y0 : Int) : Int := if 21600000 ≤ y0 - x0 then 0 else x0 % 21600000
def turnHi (x0 y0 : Int) : Int := if 21600000 ≤ y0 - x0 then 21600000 else x0 % 21600000 + (y0 - x0)
theorem ref05_Sub (x0 y0 x1 y1 : Int) (w : World) (h1 : -9223372036854775807 ≤ x0 - y1) (h2 : x0 - y1 ≤ 9223372036854775807) (h3 : -9223372036854775807 ≤ y0 - x1) (h4 : y0 - x1 ≤ 9223372036854775807) :
    Calls Tryz.prog 58 #[(.agg #[.int .i64 (x0), .int .i64 (y0)]), (.agg #[.int .i64 (x1), .int .i64 (y1)])] w fun e w' => e = .returned (.agg #[.int .i64 (x0 - y1), .int .i64 (y0 - x1)]) ∧ ∃ d, w' = bw w d := by
  refine lay_start ?_
  go_enter Tryz.func58, Tryz.ntmps58
  go_wp2
  exact bodyPost_ret (v := (.agg #[.int .i64 (x0 - y1), .int .i64 (y0 - x1)])) (by simp [results, Tryz.results58, go_sem]) rfl ⟨rfl, lay_ex _ _⟩
end Go.Proofs.YtnnmfdeeicpdlaaGreat
