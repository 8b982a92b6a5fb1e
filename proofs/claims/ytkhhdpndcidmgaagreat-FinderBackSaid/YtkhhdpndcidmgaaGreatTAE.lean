/- Contracts and plain laws, several texts in one: Infra; Lay -/
import Derived.Deep.Quiet
import Derived.Deep.QuietTactic
import Derived.StillTail
import Derived.Below
import Derived.Laws.NewBlocks
import Derived.Attr
import Derived.OwnWalk
/- Lemmas on worlds that only grow: 'bw w d' is some world that holds all blocks of w as they were. Regions that draw their order, in the class of such worlds; with a tail (a store) behind them. No program in sight. -/
namespace Go.Proofs.YtkhhdpndcidmgaaGreat
open Go.RowKit

structure Ext where
  blocks : Array Obj
  drawn : Nat
instance : Nonempty Ext := ⟨⟨#[], 0⟩⟩
def bw (w : World) (d : Ext) : World := { w with heap := w.heap ++ d.blocks, drawn := d.drawn }

theorem bw_of {w w' : World} (h : Below w.heap.size w w') : ∃ d, w' = bw w d := by
  refine ⟨⟨w'.heap.extract w.heap.size w'.heap.size, w'.drawn⟩, ?_⟩
  obtain ⟨heap, tape, drawn, os, output⟩ := w'
  obtain ⟨h1, h2, h3, h4, h5⟩ := h
  simp only at h1 h2 h3 h4 h5
  subst h1 h2 h3
  simp only [bw]
  congr 1
  apply Array.ext_getElem?
  intro i
  rw [Array.getElem?_append]
  split
  · rename_i hi; rw [← h5 i hi]
  · rename_i hi
    simp only [Array.getElem?_extract]
    by_cases hh : i < heap.size
    · rw [if_pos (by omega)]; congr 1; omega
    · rw [if_neg (by omega)]; exact Array.getElem?_eq_none (by omega)
theorem bw_le (w : World) (d : Ext) : w.heap.size ≤ (bw w d).heap.size := by simp [bw]
theorem bw_get (w : World) (d : Ext) (k : Nat) (h : k < w.heap.size) : (bw w d).heap[k]? = w.heap[k]? := by simp only [bw, Array.getElem?_append, h, if_true]
theorem bw_below (w : World) (d : Ext) : Below w.heap.size w (bw w d) := ⟨rfl, rfl, rfl, bw_le w d, fun k hk => bw_get w d k hk⟩

@[go_sem] theorem bw_cell (w : World) (d : Ext) (b i : Nat) (h : b < w.heap.size) : (bw w d).cell? ⟨b, i, none⟩ = w.cell? ⟨b, i, none⟩ := (bw_below w d).cell (p := ⟨b, i, none⟩) h
@[go_sem] theorem bw_frozen (w : World) (d : Ext) (b i : Nat) (h : b < w.heap.size) : (bw w d).frozen? ⟨b, i, none⟩ = w.frozen? ⟨b, i, none⟩ := (bw_below w d).frozen (p := ⟨b, i, none⟩) h
@[go_sem] theorem bw_shape (w : World) (d : Ext) (r : Nat) (h : r < w.heap.size) : (bw w d).shape? r = w.shape? r := by
  unfold World.shape?; rw [(bw_below w d).block r h]
@[go_sem] theorem bw_block (w : World) (d : Ext) (r : Nat) (h : r < w.heap.size) : (bw w d).heap[r]? = w.heap[r]? := (bw_below w d).block r h
@[go_sem] theorem lt_bw (w : World) (d : Ext) (b : Nat) (h : b < w.heap.size) : (b < (bw w d).heap.size) = True := eq_true (Nat.lt_of_lt_of_le h (bw_le w d))
@[go_sem] theorem le_bw_s (w : World) (d : Ext) (b : Nat) (h : b ≤ w.heap.size) : (b ≤ (bw w d).heap.size) = True := eq_true (Nat.le_trans h (bw_le w d))
@[go_sem] theorem le_bw_t (w : World) (d : Ext) (b : Nat) (h : b < w.heap.size) : (b ≤ (bw w d).heap.size) = True := eq_true (Nat.le_trans (Nat.le_of_lt h) (bw_le w d))
@[go_sem] theorem le_plus (n b k : Nat) (h : b ≤ n) : (b ≤ n + k) = True := eq_true (by omega)
@[go_sem] theorem lt_plus (n b k : Nat) (h : b < n) : (b < n + k) = True := eq_true (by omega)

@[go_sem] theorem bw_setCell (w : World) (d : Ext) (b i : Nat) (v : Value) (h : b < w.heap.size) : (bw w d).setCell ⟨b, i, none⟩ v = bw (w.setCell ⟨b, i, none⟩ v) d := by
  simp only [bw, World.setCell]
  congr 1
  apply Array.ext_getElem?
  intro k
  simp only [Array.getElem?_modify, Array.getElem?_append, Array.size_modify]
  by_cases hk : b = k
  · subst hk; simp [h]
  · simp [hk]
@[go_sem] theorem bw_drew (w : World) (d : Ext) : (bw w d).drew = bw w ⟨d.blocks, d.drawn + 1⟩ := rfl
@[go_sem] theorem bw_bw (w : World) (d e : Ext) : bw (bw w d) e = bw w ⟨d.blocks ++ e.blocks, e.drawn⟩ := by simp [bw, Array.append_assoc]
theorem bw_drewExt (w : World) : w.drew = bw w ⟨#[], w.drawn + 1⟩ := by
  show ({ w with drawn := w.drawn + 1 } : World) = { w with heap := w.heap ++ #[], drawn := w.drawn + 1 }
  rw [Array.append_empty]

theorem ret_int {k : IntKind} {a b : Int} (h : a = b) : Ending.returned (.int k a) = .returned (.int k b) := by rw [h]
theorem ret_bool {a b : Bool} (h : a = b) : Ending.returned (.bool a) = .returned (.bool b) := by rw [h]
theorem below_bw {B : Nat} {a w : World} {d : Ext} (h : Below B a w) (hB : B ≤ w.heap.size) : Below B a (bw w d) := h.trans ((bw_below w d).mono hB)

section
variable {P : Program} {ops : Array Oper} {md : Region.Mode} {C : World → Prop}

theorem region_bw {id : Nat} {Q : Exit → Act → World → Prop} {a : Act} {w : World} {l : List Oper} (hm : P.follows .mixedOrders = true) (hB : Region.lexB .any l.toArray = true)
    (h : wpQuiet P l.toArray (fun w' => ∃ d, w' = bw w d) (fun a' => ∀ w', (∃ d, w' = bw w d) → Q .normal a' w') l a) : (Code.region id l.toArray true).wp P Q a w :=
  wp_region_quiet (C := fun w' => ∃ d, w' = bw w d) hm hB ⟨_, bw_drewExt w⟩ (by simpa using h)

def headAny (P : Program) (md : Region.Mode) (ops : Array Oper) (C : World → Prop) (n : Nat) (L : Array Bool → Act → Prop) : Nat → Array Bool → Act → Prop
  | 0, listed, a => L listed a
  | f + 1, listed, a => Region.ready md ops listed ≠ [] ∧ ∀ i ∈ Region.ready md ops listed, i < n ∧ qOp P ops C i (headAny P md ops C n L f (listed.setIfInBounds i true)) a

theorem any_of_head {n g : Nat} {L : Array Bool → Act → Prop} {Q' : Exit → Act → World → Prop} (hL : ∀ listed a w, C w → L listed a → wpAny P md ops Q' g listed a w) :
    ∀ (f : Nat) (listed : Array Bool) (a : Act) (w : World), C w → headAny P md ops C n L f listed a → wpAny P md ops Q' (f + g) listed a w
  | 0, listed, a, w, hw, h => by rw [Nat.zero_add]; exact hL _ _ _ hw h
  | f + 1, listed, a, w, hw, h => by
    rw [show f + 1 + g = (f + g) + 1 by omega]
    exact ⟨fun h0 => absurd h0 h.1, fun i hi => wpOp_of_qOp hw (fun a' w' hw' h' => any_of_head hL f _ a' w' hw' h') (h.2 i hi).2⟩

theorem head_first {n i : Nat} {oi : Oper} {v : Value} {L : Array Bool → Act → Prop} (hi : ops[i]? = some oi) (hsel : ∀ (j : Nat) (o : Oper) cs b, ops[j]? = some o → o.op ≠ .select cs b)
    (hs : Region.sinkB md ops n = true) (hc : Region.chainB md ops n = true) (hn : n < ops.size) (hin : i < n)
    (hdone : ∀ listed a, L listed a → ∀ j ∈ Region.ready md ops listed, n ≤ j) (f : Nat) :
    ∀ (listed : Array Bool) (a : Act), HeadInv md ops n listed →
      (∀ j oj, ops[j]? = some oj → j ≠ i → listed.getD j true = false → (∀ e ∈ oj.after, Region.binds md e = true → e.on ≠ i) → oi.apart ops oj = true) →
      i ∈ Region.ready md ops listed → YieldsIn P ops C oi v a →
      headAny P md ops C n L f (listed.setIfInBounds i true) (a.put oi.dst v) → headAny P md ops C n L (f + 1) listed a := by
  induction f with
  | zero =>
    intro listed a inv _ hr hy H
    have hun := (mem_ready.1 hr).1
    have early : ∀ j ∈ Region.ready md ops listed, j < n := fun j hj =>
      Nat.lt_of_not_le fun hle => tail_waits hs hc hn inv _ i rfl hin hun j hle hj
    refine ⟨List.ne_nil_of_mem hr, fun j hj => ⟨early j hj, ?_⟩⟩
    by_cases hji : j = i
    · subst hji; exact hy.qOp hi H
    · exact absurd (hdone _ _ H j (ready_mono hj hji)) (Nat.not_le_of_lt (early j hj))
  | succ f ih =>
    intro listed a inv hfree hr hy H
    have hun := (mem_ready.1 hr).1
    have early : ∀ j ∈ Region.ready md ops listed, j < n := fun j hj =>
      Nat.lt_of_not_le fun hle => tail_waits hs hc hn inv _ i rfl hin hun j hle hj
    refine ⟨List.ne_nil_of_mem hr, fun j hj => ⟨early j hj, ?_⟩⟩
    by_cases hji : j = i
    · subst hji; exact hy.qOp hi H
    · have h1 := (H.2 j (ready_mono hj hji)).2
      obtain ⟨hjun, oj, hoj, hall⟩ := mem_ready.1 hj
      have hnot : ∀ e ∈ oj.after, Region.binds md e = true → e.on ≠ i := fun e he hb heq => by
        have h2 := hall e he hb
        rw [heq, getD_both hun] at h2
        cases h2
      have h2 := qOp_put hoj (hfree j oj hoj hji hjun hnot) (fun cs b => hsel i oi cs b hi) (fun cs b => hsel j oj cs b hoj) hy h1
      have hfree' : ∀ k ok, ops[k]? = some ok → k ≠ i → (listed.setIfInBounds j true).getD k true = false →
          (∀ e ∈ ok.after, Region.binds md e = true → e.on ≠ i) → oi.apart ops ok = true := fun k ok hk hki hu hno => by
        refine hfree k ok hk hki ?_ hno
        by_cases hjk : j = k
        · subst hjk; exact hjun
        · rw [getD_set_ne true hjk] at hu; exact hu
      refine qOp_mono (fun a' h3 => ih (listed.setIfInBounds j true) a' (inv.set hj (early j hj)) hfree' (ready_mono hr (Ne.symm hji)) h3.1 ?_) h2
      rw [Array.setIfInBounds_comm _ _ hji]
      exact h3.2

theorem head_lex {n g : Nat} {Lq : Act → Prop} (hsel : Region.noSelect ops = true) (hs : Region.sinkB md ops n = true) (hc : Region.chainB md ops n = true) (hn : n < ops.size) :
    ∀ (l : List Oper) (k : Nat) (listed : Array Bool) (a : Act), (∀ j, j < l.length → l[j]? = ops[k + j]?) → k + l.length = n → HeadInv md ops n listed →
    Region.lexHead md ops g l.length k listed = true → wpQuiet P ops C Lq l a →
    headAny P md ops C n (fun listed' a' => Region.seqB md ops g n listed' = true ∧ Lq a') l.length listed a
  | [], k, listed, a, _, hk, _, hB, h => by
    obtain rfl : k = n := by simpa using hk
    exact ⟨by simpa [Region.lexHead] using hB, h⟩
  | o :: l, k, listed, a, hl, hk, inv, hB, h => by
    have h0 : ops[k]? = some o := by simpa using (hl 0 (by simp)).symm
    simp only [List.length_cons, Region.lexHead, Bool.and_eq_true] at hB
    obtain ⟨⟨hr, hf⟩, hB'⟩ := hB
    simp only [List.length_cons] at hk
    have hkn : k < n := by omega
    have hr' : k ∈ Region.ready md ops listed := by simpa using hr
    have hst : qOp P ops C k (wpQuiet P ops C Lq l) a := by unfold qOp; simp only [h0]; exact h
    obtain ⟨v, hy, hK⟩ := yieldsIn_of_qOp h0 hst
    exact head_first h0 (Region.noSelect_spec hsel) hs hc hn hkn (fun listed' a' hL => seqB_ready hL.1) l.length listed a inv (Region.free_spec h0 hf) hr' hy
      (head_lex hsel hs hc hn l (k + 1) _ _ (fun j hj => by have := hl (j + 1) (by simp; omega); simpa [Nat.add_assoc, Nat.add_comm 1 j] using this) (by omega) (inv.set hr' hkn) hB' hK)

theorem region_bw_tail {id : Nat} {Q : Exit → Act → World → Prop} {a : Act} {w : World} {l : List Oper} (n : Nat) (hm : P.follows .mixedOrders = true) (hB : Region.lexTailB .any l.toArray n = true)
    (h : wpQuiet P l.toArray (fun w' => ∃ d, w' = bw w d) (fun a' => ∀ w', (∃ d, w' = bw w d) → wpList P l.toArray Q (l.drop n) a' w') (l.take n) a) : (Code.region id l.toArray true).wp P Q a w := by
  simp only [Region.lexTailB, Bool.and_eq_true, decide_eq_true_eq] at hB
  obtain ⟨⟨⟨⟨hsel, hn⟩, hs⟩, hc⟩, hlex⟩ := hB
  have hn' : n < l.length := by simpa using hn
  have htl : (l.take n).length = n := by simp; omega
  have hdl : (l.drop n).length = l.toArray.size - n := by simp
  have inv0 : HeadInv .any l.toArray n (Array.replicate l.toArray.size false) :=
    ⟨by simp, fun j oj _ hl => (by rw [getD_replicate_false] at hl; cases hl), fun t _ ht => getD_in (by simpa using ht) (getD_replicate_false _ _)⟩
  have H := head_lex (md := .any) (g := l.toArray.size - n) hsel hs hc hn (l.take n) 0 _ a (fun j hj => by
    have hj' : j < n := by rw [htl] at hj; exact hj
    simp [hj']) (by simpa using htl) inv0 (by rw [htl]; exact hlex) h
  refine wp_region_any hm ?_
  have := any_of_head (Q' := Q) (g := l.toArray.size - n) (fun listed a' w' hw' hL => by
    have := wpAny_of_seq (md := .any) (Q' := Q) (l.drop n) n listed a' w' (fun j => by simp [List.getElem?_drop]) (by rw [hdl]; exact hL.1) (hL.2 w' hw')
    rwa [hdl] at this) _ _ _ { w with drawn := w.drawn + 1 } ⟨_, bw_drewExt w⟩ H
  rw [htl, show n + (l.toArray.size - n) = l.toArray.size by omega] at this
  exact this
end

end Go.Proofs.YtkhhdpndcidmgaaGreat
/- Worlds written out: 'lay w L' is w with the segments L behind it (the latest first): a block that was made, or whatever a callee left. Addresses are written by the sizes of what lies before them. No program in sight. -/
namespace Go.Proofs.YtkhhdpndcidmgaaGreat
open Go.RowKit

def Ext.n (d : Ext) : Nat := d.blocks.size
def lay (w : World) : List (Obj ⊕ Ext) → World
  | [] => w
  | .inl o :: L => (lay w L).alloc o
  | .inr d :: L => bw (lay w L) d
def shp : List (Obj ⊕ Ext) → List Nat
  | [] => []
  | .inl _ :: L => 1 :: shp L
  | .inr d :: L => d.n :: shp L
def posn (w : World) (p : List Nat) : Nat := w.heap.size + p.sum
def objS : List (Obj ⊕ Ext) → Nat → Option Obj
  | .inl o :: _, 0 => some o
  | _ :: L, n + 1 => objS L n
  | _, _ => none
def cellS : List (Obj ⊕ Ext) → Nat → Nat → Option Value
  | .inl (.cells c _ _) :: _, 0, i => c[i]?
  | _ :: L, n + 1, i => cellS L n i
  | _, _, _ => none
def frozS : List (Obj ⊕ Ext) → Nat → Nat → Bool
  | .inl (.cells _ _ f) :: _, 0, i => decide (f.1 ≤ i) && decide (i < f.2)
  | _ :: L, n + 1, i => frozS L n i
  | _, _, _ => false
def updS : List (Obj ⊕ Ext) → Nat → Nat → Value → List (Obj ⊕ Ext)
  | .inl (.cells c t f) :: L, 0, i, v => .inl (.cells (c.setIfInBounds i v) t f) :: L
  | x :: L, n + 1, i, v => x :: updS L n i v
  | L, _, _, _ => L

section
variable (w : World) (o : Obj) (d : Ext) (L : List (Obj ⊕ Ext)) (x : Obj ⊕ Ext) (n i : Nat) (v : Value) (c : Array Value) (t : TypeId) (f : Nat × Nat)
@[go_sem] theorem lay_alloc : (lay w L).alloc o = lay w (.inl o :: L) := rfl
@[go_sem] theorem lay_bw : bw (lay w L) d = lay w (.inr d :: L) := rfl
@[go_sem] theorem shp_nil : shp [] = [] := rfl
@[go_sem] theorem shp_inl : shp (.inl o :: L) = 1 :: shp L := rfl
@[go_sem] theorem shp_inr : shp (.inr d :: L) = d.n :: shp L := rfl
@[go_sem] theorem objS_0 : objS (.inl o :: L) 0 = some o := rfl
@[go_sem] theorem objS_s : objS (x :: L) (n + 1) = objS L n := by cases x <;> rfl
@[go_sem] theorem cellS_0 : cellS (.inl (.cells c t f) :: L) 0 i = c[i]? := rfl
@[go_sem] theorem cellS_s : cellS (x :: L) (n + 1) i = cellS L n i := by cases x with | inl o => cases o <;> rfl | inr d => rfl
@[go_sem] theorem frozS_0 : frozS (.inl (.cells c t f) :: L) 0 i = (decide (f.1 ≤ i) && decide (i < f.2)) := rfl
@[go_sem] theorem frozS_s : frozS (x :: L) (n + 1) i = frozS L n i := by cases x with | inl o => cases o <;> rfl | inr d => rfl
@[go_sem] theorem updS_0 : updS (.inl (.cells c t f) :: L) 0 i v = .inl (.cells (c.setIfInBounds i v) t f) :: L := rfl
@[go_sem] theorem updS_s : updS (x :: L) (n + 1) i v = x :: updS L n i v := by cases x with | inl o => cases o <;> rfl | inr d => rfl
@[go_sem] theorem lay_size : (lay w L).heap.size = posn w (shp L) := by
  induction L with
  | nil => simp [lay, shp, posn]
  | cons x L ih =>
    cases x with
    | inl o => simp only [lay, World.size_alloc, ih, shp, posn, List.sum_cons]; omega
    | inr d => simp only [lay, shp, posn, List.sum_cons, bw, Array.size_append, ih, Ext.n]; omega
theorem lay_extends : Below w.heap.size w (lay w L) := by
  induction L with
  | nil => exact Below.refl _ _
  | cons x L ih =>
    cases x with
    | inl o => exact ih.alloc ih.size o
    | inr d => exact below_bw ih ih.size
theorem lay_ex : ∃ d, lay w L = bw w d := bw_of (lay_extends w L)
@[go_sem] theorem lay_old (b : Nat) (h : b < w.heap.size) : (lay w L).cell? ⟨b, i, none⟩ = w.cell? ⟨b, i, none⟩ := (lay_extends w L).cell (p := ⟨b, i, none⟩) h
@[go_sem] theorem lay_oldf (b : Nat) (h : b < w.heap.size) : (lay w L).frozen? ⟨b, i, none⟩ = w.frozen? ⟨b, i, none⟩ := (lay_extends w L).frozen (p := ⟨b, i, none⟩) h
@[go_sem] theorem lay_oldb (b : Nat) (h : b < w.heap.size) : (lay w L).heap[b]? = w.heap[b]? := (lay_extends w L).block b h
@[go_sem] theorem lay_olds (b : Nat) (h : b < w.heap.size) : (lay w L).shape? b = w.shape? b := by unfold World.shape?; rw [lay_oldb w L b h]
@[go_sem] theorem lt_posn (p : List Nat) (b : Nat) (h : b < w.heap.size) : (b < posn w p) = True := eq_true (by unfold posn; omega)
@[go_sem] theorem le_posn (p : List Nat) (b : Nat) (h : b < w.heap.size) : (b ≤ posn w p) = True := eq_true (by unfold posn; omega)
@[go_sem] theorem base_le_posn (p : List Nat) : (w.heap.size ≤ posn w p) = True := eq_true (by unfold posn; omega)

end
def isC : List (Obj ⊕ Ext) → Nat → Bool
  | .inl (.cells _ _ _) :: _, 0 => true
  | _ :: L, n + 1 => isC L n
  | _, _ => false
@[go_sem] theorem isC_0 (c : Array Value) (t : TypeId) (f : Nat × Nat) (L : List (Obj ⊕ Ext)) : isC (.inl (.cells c t f) :: L) 0 = true := rfl
@[go_sem] theorem isC_s (x : Obj ⊕ Ext) (L : List (Obj ⊕ Ext)) (n : Nat) : isC (x :: L) (n + 1) = isC L n := by cases x with | inl o => cases o <;> rfl | inr d => rfl

theorem lay_get (w : World) : ∀ (L : List (Obj ⊕ Ext)) (k : Nat) (o : Obj), objS L k = some o → (lay w L).heap[posn w ((shp L).drop (k + 1))]? = some o
  | [], k, o, h => by cases k <;> simp [objS] at h
  | .inl o' :: L, 0, o, h => by
    simp only [objS, Option.some.injEq] at h
    subst h
    simp only [shp, List.drop_succ_cons, List.drop_zero, ← lay_size]
    show ((lay w L).heap.push o')[_]? = _
    simp
  | .inr d :: L, 0, o, h => by simp [objS] at h
  | x :: L, k + 1, o, h => by
    rw [objS_s] at h
    have ih := lay_get w L k o h
    have hlt := (Array.getElem?_eq_some_iff.1 ih).1
    cases x with
    | inl o' => simp only [shp, List.drop_succ_cons]; exact (Below.heap_alloc _ _ _ hlt).trans ih
    | inr d => simp only [shp, List.drop_succ_cons]; exact (bw_get _ _ _ hlt).trans ih
theorem obj_of_isC : ∀ (L : List (Obj ⊕ Ext)) (k : Nat), isC L k = true → ∃ c t f, objS L k = some (.cells c t f)
  | [], k, h => by cases k <;> simp [isC] at h
  | .inl (.cells c t f) :: L, 0, _ => ⟨c, t, f, rfl⟩
  | x :: L, k + 1, h => by rw [isC_s] at h; rw [objS_s]; exact obj_of_isC L k h
  | .inr _ :: _, 0, h => by simp [isC] at h
  | .inl (.pending _ _) :: _, 0, h => by simp [isC] at h
  | .inl (.view _ _) :: _, 0, h => by simp [isC] at h
  | .inl (.number _ _) :: _, 0, h => by simp [isC] at h
  | .inl (.map _ _) :: _, 0, h => by simp [isC] at h
  | .inl (.chan _ _ _ _ _ _) :: _, 0, h => by simp [isC] at h
  | .inl (.stringIter _ _) :: _, 0, h => by simp [isC] at h
  | .inl (.mapIter _ _ _ _) :: _, 0, h => by simp [isC] at h
  | .inl (.loop _) :: _, 0, h => by simp [isC] at h
  | .inl (.deferred _) :: _, 0, h => by simp [isC] at h
  | .inl (.coro _) :: _, 0, h => by simp [isC] at h
  | .inl (.finalizers _ _) :: _, 0, h => by simp [isC] at h
theorem cellS_of : ∀ (L : List (Obj ⊕ Ext)) (k i : Nat) (c : Array Value) (t : TypeId) (f : Nat × Nat), objS L k = some (.cells c t f) → cellS L k i = c[i]? ∧ frozS L k i = (decide (f.1 ≤ i) && decide (i < f.2))
  | [], k, _, _, _, _, h => by cases k <;> simp [objS] at h
  | .inl o :: L, 0, _, _, _, _, h => by simp only [objS, Option.some.injEq] at h; subst h; exact ⟨rfl, rfl⟩
  | .inr _ :: _, 0, _, _, _, _, h => by simp [objS] at h
  | x :: L, k + 1, i, c, t, f, h => by rw [objS_s] at h; rw [cellS_s, frozS_s]; exact cellS_of L k i c t f h
theorem lay_set (w : World) (i : Nat) (v : Value) : ∀ (L : List (Obj ⊕ Ext)) (k : Nat), isC L k = true → (lay w L).setCell ⟨posn w ((shp L).drop (k + 1)), i, none⟩ v = lay w (updS L k i v)
  | [], k, h => by cases k <;> simp [isC] at h
  | .inl o :: L, 0, h => by
    cases o with
    | cells c t f =>
      simp only [shp, List.drop_succ_cons, List.drop_zero, ← lay_size, lay, updS]
      unfold World.setCell World.alloc
      congr 1
      apply Array.ext_getElem?
      intro k
      rw [Array.getElem?_modify]
      by_cases hk : (lay w L).heap.size = k
      · subst hk; simp
      · have hk' : k ≠ (lay w L).heap.size := fun e => hk e.symm
        simp [hk, hk', Array.getElem?_push]
    | _ => simp [isC] at h
  | .inr d :: L, 0, h => by simp [isC] at h
  | x :: L, k + 1, h => by
    rw [isC_s] at h
    have ih := lay_set w i v L k h
    obtain ⟨c, t, f, ho⟩ := obj_of_isC L k h
    have hlt := (Array.getElem?_eq_some_iff.1 (lay_get w L k _ ho)).1
    rw [updS_s]
    cases x with
    | inl o' => simp only [shp, List.drop_succ_cons, lay]; rw [World.setCell_alloc_past _ _ _ _ hlt, ih]
    | inr d => simp only [shp, List.drop_succ_cons, lay]; rw [bw_setCell _ _ _ _ _ hlt, ih]

section
variable (w : World) (L : List (Obj ⊕ Ext)) (p : List Nat) (i : Nat) (v : Value)
theorem depth_eq (h : (shp L).drop (L.length - p.length) = p) (h2 : p.length < L.length) : p = (shp L).drop (L.length - p.length - 1 + 1) := by
  rw [show L.length - p.length - 1 + 1 = L.length - p.length by omega]; exact h.symm
@[go_sem] theorem lay_cell (h2 : p.length < L.length) (h : (shp L).drop (L.length - p.length) = p) (h3 : isC L (L.length - p.length - 1) = true) :
    (lay w L).cell? ⟨posn w p, i, none⟩ = cellS L (L.length - p.length - 1) i := by
  obtain ⟨c, t, f, ho⟩ := obj_of_isC L _ h3
  have := lay_get w L _ _ ho
  rw [← depth_eq L p h h2] at this
  rw [(cellS_of L _ i c t f ho).1]
  simp [World.cell?, this]
@[go_sem] theorem lay_froz (h2 : p.length < L.length) (h : (shp L).drop (L.length - p.length) = p) (h3 : isC L (L.length - p.length - 1) = true) :
    (lay w L).frozen? ⟨posn w p, i, none⟩ = frozS L (L.length - p.length - 1) i := by
  obtain ⟨c, t, f, ho⟩ := obj_of_isC L _ h3
  have := lay_get w L _ _ ho
  rw [← depth_eq L p h h2] at this
  rw [(cellS_of L _ i c t f ho).2]
  obtain ⟨f1, f2⟩ := f
  simp [World.frozen?, this]
@[go_sem] theorem lay_setCell (h2 : p.length < L.length) (h : (shp L).drop (L.length - p.length) = p) (h3 : isC L (L.length - p.length - 1) = true) :
    (lay w L).setCell ⟨posn w p, i, none⟩ v = lay w (updS L (L.length - p.length - 1) i v) := by
  have := lay_set w i v L _ h3
  rw [← depth_eq L p h h2] at this
  exact this
@[go_sem] theorem lay_heap (h2 : p.length < L.length) (h : (shp L).drop (L.length - p.length) = p) (h3 : (objS L (L.length - p.length - 1)).isSome = true) :
    (lay w L).heap[posn w p]? = objS L (L.length - p.length - 1) := by
  obtain ⟨o, ho⟩ := Option.isSome_iff_exists.1 h3
  have := lay_get w L _ _ ho
  rw [← depth_eq L p h h2] at this
  rw [this, ho]
end
theorem lay_start {P : Program} {f : FuncId} {args : Array Value} {w : World} {R : Ending → World → Prop} (h : Calls P f args (lay w []) R) : Calls P f args w R := h
theorem bq {P : Program} {f : FuncId} {args : Array Value} {W : World} {v : Value} {C : World → Prop}
    (h : Calls P f args W fun e w' => e = .returned v ∧ ∃ d, w' = bw W d) (hC : ∀ d, C (bw W d)) : Calls P f args W fun e w' => e = .returned v ∧ C w' :=
  h.mono fun _ _ ⟨he, d, hw⟩ => ⟨he, by rw [hw]; exact hC d⟩
theorem bqs {P : Program} {f : FuncId} {args : Array Value} {W : World} {v : Value} {C : World → Prop}
    (h : Calls P f args W fun e w' => e = .returned v ∧ w' = W) (hC : C W) : Calls P f args W fun e w' => e = .returned v ∧ C w' :=
  h.mono fun _ _ ⟨he, hw⟩ => ⟨he, by rw [hw]; exact hC⟩
theorem lay_join (w : World) (L : List (Obj ⊕ Ext)) (d e : Ext) : ∃ x, bw (lay w (.inr d :: L)) e = lay w (.inr x :: L) := ⟨_, bw_bw (lay w L) d e⟩
end Go.Proofs.YtkhhdpndcidmgaaGreat
