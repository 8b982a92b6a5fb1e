/- Contracts and plain laws, several texts in one: Infra; Lay; Frame; Region -/
import Derived.Deep.Quiet
import Derived.Deep.QuietTactic
import Derived.StillTail
import Derived.Below
import Derived.Laws.NewBlocks
import Derived.Attr
import Derived.OwnWalk
import Derived.Test.YtmmfkleplbofgaaGreatDoorRows
import Derived.WalkKit
import Derived.ProofKit
import Derived.Lib.SmallJoins
import Derived.OpenShut
/- Lemmas on worlds that only grow: 'bw w d' is some world that holds all blocks of w as they were. Regions that draw their order, in the class of such worlds; with a tail (a store) behind them. No program in sight. -/
namespace Go.Proofs.YtmmfkleplbofgaaGreatDoor
open Go.RowKit

/-- What has come behind w's blocks, and the count of draws. -/
structure Ext where
  blocks : Array Obj
  drawn : Nat
instance : Nonempty Ext := ⟨⟨#[], 0⟩⟩
/-- A world that has all of w's blocks as they were. -/
def bw (w : World) (d : Ext) : World := { w with heap := w.heap ++ d.blocks, drawn := d.drawn }

theorem bw_of {w w' : World} (h : Below w.heap.size w w') : ∃ d, w' = bw w d := by
  refine ⟨⟨w'.heap.extract w.heap.size w'.heap.size, w'.drawn⟩, ?_⟩
  obtain ⟨heap, tape, drawn, os, output⟩ := w'
  obtain ⟨h1, h2, h3, h4, h5⟩ := h
  simp only at h1 h2 h3 h4 h5
  subst h1 h2 h3
  simp only [bw]
  congr 1
  apply Array.ext_getElem?
  intro i
  rw [Array.getElem?_append]
  split
  · rename_i hi; rw [← h5 i hi]
  · rename_i hi
    simp only [Array.getElem?_extract]
    by_cases hh : i < heap.size
    · rw [if_pos (by omega)]; congr 1; omega
    · rw [if_neg (by omega)]; exact Array.getElem?_eq_none (by omega)
theorem bw_le (w : World) (d : Ext) : w.heap.size ≤ (bw w d).heap.size := by simp [bw]
theorem bw_get (w : World) (d : Ext) (k : Nat) (h : k < w.heap.size) : (bw w d).heap[k]? = w.heap[k]? := by simp only [bw, Array.getElem?_append, h, if_true]
theorem bw_below (w : World) (d : Ext) : Below w.heap.size w (bw w d) := ⟨rfl, rfl, rfl, bw_le w d, fun k hk => bw_get w d k hk⟩

@[go_sem] theorem bw_cell (w : World) (d : Ext) (b i : Nat) (h : b < w.heap.size) : (bw w d).cell? ⟨b, i, none⟩ = w.cell? ⟨b, i, none⟩ := (bw_below w d).cell (p := ⟨b, i, none⟩) h
@[go_sem] theorem bw_frozen (w : World) (d : Ext) (b i : Nat) (h : b < w.heap.size) : (bw w d).frozen? ⟨b, i, none⟩ = w.frozen? ⟨b, i, none⟩ := (bw_below w d).frozen (p := ⟨b, i, none⟩) h
@[go_sem] theorem bw_shape (w : World) (d : Ext) (r : Nat) (h : r < w.heap.size) : (bw w d).shape? r = w.shape? r := by
  unfold World.shape?; rw [(bw_below w d).block r h]
@[go_sem] theorem bw_block (w : World) (d : Ext) (r : Nat) (h : r < w.heap.size) : (bw w d).heap[r]? = w.heap[r]? := (bw_below w d).block r h
@[go_sem] theorem lt_bw (w : World) (d : Ext) (b : Nat) (h : b < w.heap.size) : (b < (bw w d).heap.size) = True := eq_true (Nat.lt_of_lt_of_le h (bw_le w d))
@[go_sem] theorem le_bw_s (w : World) (d : Ext) (b : Nat) (h : b ≤ w.heap.size) : (b ≤ (bw w d).heap.size) = True := eq_true (Nat.le_trans h (bw_le w d))
@[go_sem] theorem le_bw_t (w : World) (d : Ext) (b : Nat) (h : b < w.heap.size) : (b ≤ (bw w d).heap.size) = True := eq_true (Nat.le_trans (Nat.le_of_lt h) (bw_le w d))
@[go_sem] theorem le_plus (n b k : Nat) (h : b ≤ n) : (b ≤ n + k) = True := eq_true (by omega)
@[go_sem] theorem lt_plus (n b k : Nat) (h : b < n) : (b < n + k) = True := eq_true (by omega)

@[go_sem] theorem bw_setCell (w : World) (d : Ext) (b i : Nat) (v : Value) (h : b < w.heap.size) : (bw w d).setCell ⟨b, i, none⟩ v = bw (w.setCell ⟨b, i, none⟩ v) d := by
  simp only [bw, World.setCell]
  congr 1
  apply Array.ext_getElem?
  intro k
  simp only [Array.getElem?_modify, Array.getElem?_append, Array.size_modify]
  by_cases hk : b = k
  · subst hk; simp [h]
  · simp [hk]
/-- A draw behind such a world is such a world. -/
@[go_sem] theorem bw_drew (w : World) (d : Ext) : (bw w d).drew = bw w ⟨d.blocks, d.drawn + 1⟩ := rfl
@[go_sem] theorem bw_bw (w : World) (d e : Ext) : bw (bw w d) e = bw w ⟨d.blocks ++ e.blocks, e.drawn⟩ := by simp [bw, Array.append_assoc]
theorem bw_drewExt (w : World) : w.drew = bw w ⟨#[], w.drawn + 1⟩ := by
  show ({ w with drawn := w.drawn + 1 } : World) = { w with heap := w.heap ++ #[], drawn := w.drawn + 1 }
  rw [Array.append_empty]

theorem le_bw {B : Nat} {w : World} {d : Ext} (h : B ≤ w.heap.size) : B ≤ (bw w d).heap.size := Nat.le_trans h (bw_le w d)
theorem le_al {B : Nat} {w : World} {o : Obj} (h : B ≤ w.heap.size) : B ≤ (w.alloc o).heap.size := by simp; omega
theorem le_set {B : Nat} {w : World} {a : Addr} {v : Value} (h : B ≤ w.heap.size) : B ≤ (w.setCell a v).heap.size := by simp; omega
theorem le_drew {B : Nat} {w : World} (h : B ≤ w.heap.size) : B ≤ w.drew.heap.size := h
theorem le_succ' {a b k : Nat} (h : a ≤ b) : a ≤ b + k := by omega
theorem ret_int {k : IntKind} {a b : Int} (h : a = b) : Ending.returned (.int k a) = .returned (.int k b) := by rw [h]
theorem ret_bool {a b : Bool} (h : a = b) : Ending.returned (.bool a) = .returned (.bool b) := by rw [h]
theorem ret_val {a b : Value} (h : a = b) : Ending.returned a = .returned b := by rw [h]
theorem agg2 {a b c d : Int} (h1 : a = c) (h2 : b = d) : (Value.agg #[.int .i64 a, .int .i64 b]) = .agg #[.int .i64 c, .int .i64 d] := by rw [h1, h2]
theorem below_bw {B : Nat} {a w : World} {d : Ext} (h : Below B a w) (hB : B ≤ w.heap.size) : Below B a (bw w d) := h.trans ((bw_below w d).mono hB)

/-- What a callee that leaves the world alone, or only makes memory, is in the class of such worlds. -/
theorem bq_same {P : Program} {f : FuncId} {args : Array Value} {w : World} {d : Ext} {v : Value}
    (h : Calls P f args (bw w d) fun e w' => e = .returned v ∧ w' = bw w d) : Calls P f args (bw w d) fun e w' => e = .returned v ∧ ∃ d, w' = bw w d :=
  h.mono fun _ _ ⟨he, hw⟩ => ⟨he, d, hw⟩
theorem bq_of {P : Program} {f : FuncId} {args : Array Value} {w : World} {d : Ext} {v : Value}
    (h : Calls P f args (bw w d) fun e w' => e = .returned v ∧ ∃ e', w' = bw (bw w d) e') : Calls P f args (bw w d) fun e w' => e = .returned v ∧ ∃ d, w' = bw w d :=
  h.mono fun _ _ ⟨he, e', hw⟩ => ⟨he, _, hw.trans (bw_bw w d e')⟩

section
variable {P : Program} {ops : Array Oper} {md : Region.Mode} {C : World → Prop}

/-- A region that draws its order, in the class. -/
theorem region_bw {id : Nat} {Q : Exit → Act → World → Prop} {a : Act} {w : World} {l : List Oper} (hm : P.follows .mixedOrders = true) (hB : Region.lexB .any l.toArray = true)
    (h : wpQuiet P l.toArray (fun w' => ∃ d, w' = bw w d) (fun a' => ∀ w', (∃ d, w' = bw w d) → Q .normal a' w') l a) : (Code.region id l.toArray true).wp P Q a w :=
  wp_region_quiet (C := fun w' => ∃ d, w' = bw w d) hm hB ⟨_, bw_drewExt w⟩ (by simpa using h)

/-- The head of a region in whatever order; L is asked when it is through. -/
def headAny (P : Program) (md : Region.Mode) (ops : Array Oper) (C : World → Prop) (n : Nat) (L : Array Bool → Act → Prop) : Nat → Array Bool → Act → Prop
  | 0, listed, a => L listed a
  | f + 1, listed, a => Region.ready md ops listed ≠ [] ∧ ∀ i ∈ Region.ready md ops listed, i < n ∧ qOp P ops C i (headAny P md ops C n L f (listed.setIfInBounds i true)) a

theorem any_of_head {n g : Nat} {L : Array Bool → Act → Prop} {Q' : Exit → Act → World → Prop} (hL : ∀ listed a w, C w → L listed a → wpAny P md ops Q' g listed a w) :
    ∀ (f : Nat) (listed : Array Bool) (a : Act) (w : World), C w → headAny P md ops C n L f listed a → wpAny P md ops Q' (f + g) listed a w
  | 0, listed, a, w, hw, h => by rw [Nat.zero_add]; exact hL _ _ _ hw h
  | f + 1, listed, a, w, hw, h => by
    rw [show f + 1 + g = (f + g) + 1 by omega]
    exact ⟨fun h0 => absurd h0 h.1, fun i hi => wpOp_of_qOp hw (fun a' w' hw' h' => any_of_head hL f _ a' w' hw' h') (h.2 i hi).2⟩

theorem head_first {n i : Nat} {oi : Oper} {v : Value} {L : Array Bool → Act → Prop} (hi : ops[i]? = some oi) (hsel : ∀ (j : Nat) (o : Oper) cs b, ops[j]? = some o → o.op ≠ .select cs b)
    (hs : Region.sinkB md ops n = true) (hc : Region.chainB md ops n = true) (hn : n < ops.size) (hin : i < n)
    (hdone : ∀ listed a, L listed a → ∀ j ∈ Region.ready md ops listed, n ≤ j) (f : Nat) :
    ∀ (listed : Array Bool) (a : Act), HeadInv md ops n listed →
      (∀ j oj, ops[j]? = some oj → j ≠ i → listed.getD j true = false → (∀ e ∈ oj.after, Region.binds md e = true → e.on ≠ i) → oi.apart ops oj = true) →
      i ∈ Region.ready md ops listed → YieldsIn P ops C oi v a →
      headAny P md ops C n L f (listed.setIfInBounds i true) (a.put oi.dst v) → headAny P md ops C n L (f + 1) listed a := by
  induction f with
  | zero =>
    intro listed a inv _ hr hy H
    have hun := (mem_ready.1 hr).1
    have early : ∀ j ∈ Region.ready md ops listed, j < n := fun j hj =>
      Nat.lt_of_not_le fun hle => tail_waits hs hc hn inv _ i rfl hin hun j hle hj
    refine ⟨List.ne_nil_of_mem hr, fun j hj => ⟨early j hj, ?_⟩⟩
    by_cases hji : j = i
    · subst hji; exact hy.qOp hi H
    · exact absurd (hdone _ _ H j (ready_mono hj hji)) (Nat.not_le_of_lt (early j hj))
  | succ f ih =>
    intro listed a inv hfree hr hy H
    have hun := (mem_ready.1 hr).1
    have early : ∀ j ∈ Region.ready md ops listed, j < n := fun j hj =>
      Nat.lt_of_not_le fun hle => tail_waits hs hc hn inv _ i rfl hin hun j hle hj
    refine ⟨List.ne_nil_of_mem hr, fun j hj => ⟨early j hj, ?_⟩⟩
    by_cases hji : j = i
    · subst hji; exact hy.qOp hi H
    · have h1 := (H.2 j (ready_mono hj hji)).2
      obtain ⟨hjun, oj, hoj, hall⟩ := mem_ready.1 hj
      have hnot : ∀ e ∈ oj.after, Region.binds md e = true → e.on ≠ i := fun e he hb heq => by
        have h2 := hall e he hb
        rw [heq, getD_both hun] at h2
        cases h2
      have h2 := qOp_put hoj (hfree j oj hoj hji hjun hnot) (fun cs b => hsel i oi cs b hi) (fun cs b => hsel j oj cs b hoj) hy h1
      have hfree' : ∀ k ok, ops[k]? = some ok → k ≠ i → (listed.setIfInBounds j true).getD k true = false →
          (∀ e ∈ ok.after, Region.binds md e = true → e.on ≠ i) → oi.apart ops ok = true := fun k ok hk hki hu hno => by
        refine hfree k ok hk hki ?_ hno
        by_cases hjk : j = k
        · subst hjk; exact hjun
        · rw [getD_set_ne true hjk] at hu; exact hu
      refine qOp_mono (fun a' h3 => ih (listed.setIfInBounds j true) a' (inv.set hj (early j hj)) hfree' (ready_mono hr (Ne.symm hji)) h3.1 ?_) h2
      rw [Array.setIfInBounds_comm _ _ hji]
      exact h3.2

theorem head_lex {n g : Nat} {Lq : Act → Prop} (hsel : Region.noSelect ops = true) (hs : Region.sinkB md ops n = true) (hc : Region.chainB md ops n = true) (hn : n < ops.size) :
    ∀ (l : List Oper) (k : Nat) (listed : Array Bool) (a : Act), (∀ j, j < l.length → l[j]? = ops[k + j]?) → k + l.length = n → HeadInv md ops n listed →
    Region.lexHead md ops g l.length k listed = true → wpQuiet P ops C Lq l a →
    headAny P md ops C n (fun listed' a' => Region.seqB md ops g n listed' = true ∧ Lq a') l.length listed a
  | [], k, listed, a, _, hk, _, hB, h => by
    obtain rfl : k = n := by simpa using hk
    exact ⟨by simpa [Region.lexHead] using hB, h⟩
  | o :: l, k, listed, a, hl, hk, inv, hB, h => by
    have h0 : ops[k]? = some o := by simpa using (hl 0 (by simp)).symm
    simp only [List.length_cons, Region.lexHead, Bool.and_eq_true] at hB
    obtain ⟨⟨hr, hf⟩, hB'⟩ := hB
    simp only [List.length_cons] at hk
    have hkn : k < n := by omega
    have hr' : k ∈ Region.ready md ops listed := by simpa using hr
    have hst : qOp P ops C k (wpQuiet P ops C Lq l) a := by unfold qOp; simp only [h0]; exact h
    obtain ⟨v, hy, hK⟩ := yieldsIn_of_qOp h0 hst
    exact head_first h0 (Region.noSelect_spec hsel) hs hc hn hkn (fun listed' a' hL => seqB_ready hL.1) l.length listed a inv (Region.free_spec h0 hf) hr' hy
      (head_lex hsel hs hc hn l (k + 1) _ _ (fun j hj => by have := hl (j + 1) (by simp; omega); simpa [Nat.add_assoc, Nat.add_comm 1 j] using this) (by omega) (inv.set hr' hkn) hB' hK)

/-- A region that draws its order: all but the last operations are quiet in the class; the last ones follow in the text's order. -/
theorem region_bw_tail {id : Nat} {Q : Exit → Act → World → Prop} {a : Act} {w : World} {l : List Oper} (n : Nat) (hm : P.follows .mixedOrders = true) (hB : Region.lexTailB .any l.toArray n = true)
    (h : wpQuiet P l.toArray (fun w' => ∃ d, w' = bw w d) (fun a' => ∀ w', (∃ d, w' = bw w d) → wpList P l.toArray Q (l.drop n) a' w') (l.take n) a) : (Code.region id l.toArray true).wp P Q a w := by
  simp only [Region.lexTailB, Bool.and_eq_true, decide_eq_true_eq] at hB
  obtain ⟨⟨⟨⟨hsel, hn⟩, hs⟩, hc⟩, hlex⟩ := hB
  have hn' : n < l.length := by simpa using hn
  have htl : (l.take n).length = n := by simp; omega
  have hdl : (l.drop n).length = l.toArray.size - n := by simp
  have inv0 : HeadInv .any l.toArray n (Array.replicate l.toArray.size false) :=
    ⟨by simp, fun j oj _ hl => (by rw [getD_replicate_false] at hl; cases hl), fun t _ ht => getD_in (by simpa using ht) (getD_replicate_false _ _)⟩
  have H := head_lex (md := .any) (g := l.toArray.size - n) hsel hs hc hn (l.take n) 0 _ a (fun j hj => by
    have hj' : j < n := by rw [htl] at hj; exact hj
    simp [hj']) (by simpa using htl) inv0 (by rw [htl]; exact hlex) h
  refine wp_region_any hm ?_
  have := any_of_head (Q' := Q) (g := l.toArray.size - n) (fun listed a' w' hw' hL => by
    have := wpAny_of_seq (md := .any) (Q' := Q) (l.drop n) n listed a' w' (fun j => by simp [List.getElem?_drop]) (by rw [hdl]; exact hL.1) (hL.2 w' hw')
    rwa [hdl] at this) _ _ _ { w with drawn := w.drawn + 1 } ⟨_, bw_drewExt w⟩ H
  rw [htl, show n + (l.toArray.size - n) = l.toArray.size by omega] at this
  exact this
end

/-- 'append(out, x)' on a slice of the call's own, x one element that was just laid down: the row is longer by it, in some world that extends w0. -/
theorem wpList_push {P : Program} {ops : Array Oper} {rest : List Oper} {o : Oper} {a : Act} {Q : Exit → Act → World → Prop} (hgd : o.guard = none) (s x : Operand) (t : TypeId)
    (ho : o.op = .call { callee := .builtin .append, args := #[s, x], argTypes := #[t, t] })
    (e : TypeId) (i : TypeInfo) (z : Value) (size bytes : Nat) (ht : P.underlying t = some (.slice e)) (hi : P.info? e = some i) (hz : i.zero = some z)
    (hsize : i.size = size) (hby : i.bytes = bytes) (hzs : z.cells.size = size) (hsz : 0 < size)
    (w0 wb : World) (c : Array Value) (te : TypeId) (v : Value) (n : Nat) (xs : List Value) (hw : Below w0.heap.size w0 wb) (hown : wb.ownsRow w0.heap.size e size v n xs)
    (hs : a.eval s = v) (hx : a.eval x = .slice (some ⟨wb.heap.size, 0, none⟩) 1 1) (hc : c.size = size) (h1 : ∀ u ∈ c.toList, u.oneCell' = true)
    (hn : n + 1 ≤ maxLen) (hb : (n + 1) * bytes ≤ 140737488355328)
    (h : ∀ v' d, (bw w0 d).ownsRow w0.heap.size e size v' (n + 1) (xs ++ c.toList) → wpList P ops Q rest (a.put o.dst v') (bw w0 d)) :
    wpList P ops Q (o :: rest) a (wb.alloc (.cells c te)) := by
  refine wpList_append_own _ hgd s x t ho w0.heap.size e i z size bytes ht hi hz hsize hby hzs hsz v n xs hs (hown.alloc _) ⟨wb.heap.size, 0, none⟩ 1 1 c.toList hx (by simp [hc]) ?_ h1 hn hb (le_al hw.size) ?_
  · intro j u hu
    rw [Addr.add_lit, Nat.zero_add, World.cell?_alloc_new]
    simpa using hu
  · intro v' w' hown' hg _
    obtain ⟨d, hd⟩ := bw_of (w := w0) (w' := w') ((hw.alloc hw.size _).grown hg (le_al hw.size) (fun k hk => (hown.lt k hk).1))
    subst hd
    exact h v' d hown'
theorem row_nil (w : World) (base e size : Nat) : w.ownsRow base e size (.slice none 0 0) 0 [] := World.ownsRow_nil w base e size
end Go.Proofs.YtmmfkleplbofgaaGreatDoor
/- Worlds written out: 'lay w L' is w with the segments L behind it (the latest first): a block that was made, or whatever a callee left. Addresses are written by the sizes of what lies before them. No program in sight. -/
namespace Go.Proofs.YtmmfkleplbofgaaGreatDoor
open Go.RowKit

def Ext.n (d : Ext) : Nat := d.blocks.size
def lay (w : World) : List (Obj ⊕ Ext) → World
  | [] => w
  | .inl o :: L => (lay w L).alloc o
  | .inr d :: L => bw (lay w L) d
def shp : List (Obj ⊕ Ext) → List Nat
  | [] => []
  | .inl _ :: L => 1 :: shp L
  | .inr d :: L => d.n :: shp L
def posn (w : World) (p : List Nat) : Nat := w.heap.size + p.sum
/-- The object at a depth. -/
def objS : List (Obj ⊕ Ext) → Nat → Option Obj
  | .inl o :: _, 0 => some o
  | _ :: L, n + 1 => objS L n
  | _, _ => none
def cellS : List (Obj ⊕ Ext) → Nat → Nat → Option Value
  | .inl (.cells c _ _) :: _, 0, i => c[i]?
  | _ :: L, n + 1, i => cellS L n i
  | _, _, _ => none
def frozS : List (Obj ⊕ Ext) → Nat → Nat → Bool
  | .inl (.cells _ _ f) :: _, 0, i => decide (f.1 ≤ i) && decide (i < f.2)
  | _ :: L, n + 1, i => frozS L n i
  | _, _, _ => false
def updS : List (Obj ⊕ Ext) → Nat → Nat → Value → List (Obj ⊕ Ext)
  | .inl (.cells c t f) :: L, 0, i, v => .inl (.cells (c.setIfInBounds i v) t f) :: L
  | x :: L, n + 1, i, v => x :: updS L n i v
  | L, _, _, _ => L

section
variable (w : World) (o : Obj) (d : Ext) (L : List (Obj ⊕ Ext)) (x : Obj ⊕ Ext) (n i : Nat) (v : Value) (c : Array Value) (t : TypeId) (f : Nat × Nat)
@[go_sem] theorem lay_alloc : (lay w L).alloc o = lay w (.inl o :: L) := rfl
@[go_sem] theorem lay_bw : bw (lay w L) d = lay w (.inr d :: L) := rfl
@[go_sem] theorem shp_nil : shp [] = [] := rfl
@[go_sem] theorem shp_inl : shp (.inl o :: L) = 1 :: shp L := rfl
@[go_sem] theorem shp_inr : shp (.inr d :: L) = d.n :: shp L := rfl
@[go_sem] theorem objS_0 : objS (.inl o :: L) 0 = some o := rfl
@[go_sem] theorem objS_s : objS (x :: L) (n + 1) = objS L n := by cases x <;> rfl
@[go_sem] theorem cellS_0 : cellS (.inl (.cells c t f) :: L) 0 i = c[i]? := rfl
@[go_sem] theorem cellS_s : cellS (x :: L) (n + 1) i = cellS L n i := by cases x with | inl o => cases o <;> rfl | inr d => rfl
@[go_sem] theorem frozS_0 : frozS (.inl (.cells c t f) :: L) 0 i = (decide (f.1 ≤ i) && decide (i < f.2)) := rfl
@[go_sem] theorem frozS_s : frozS (x :: L) (n + 1) i = frozS L n i := by cases x with | inl o => cases o <;> rfl | inr d => rfl
@[go_sem] theorem updS_0 : updS (.inl (.cells c t f) :: L) 0 i v = .inl (.cells (c.setIfInBounds i v) t f) :: L := rfl
@[go_sem] theorem updS_s : updS (x :: L) (n + 1) i v = x :: updS L n i v := by cases x with | inl o => cases o <;> rfl | inr d => rfl
theorem shp_len : (shp L).length = L.length := by induction L with | nil => rfl | cons x L ih => cases x <;> simp [shp, ih]
@[go_sem] theorem lay_size : (lay w L).heap.size = posn w (shp L) := by
  induction L with
  | nil => simp [lay, shp, posn]
  | cons x L ih =>
    cases x with
    | inl o => simp only [lay, World.size_alloc, ih, shp, posn, List.sum_cons]; omega
    | inr d => simp only [lay, shp, posn, List.sum_cons, bw, Array.size_append, ih, Ext.n]; omega
theorem lay_extends : Below w.heap.size w (lay w L) := by
  induction L with
  | nil => exact Below.refl _ _
  | cons x L ih =>
    cases x with
    | inl o => exact ih.alloc ih.size o
    | inr d => exact below_bw ih ih.size
theorem lay_ex : ∃ d, lay w L = bw w d := bw_of (lay_extends w L)
@[go_sem] theorem lay_old (b : Nat) (h : b < w.heap.size) : (lay w L).cell? ⟨b, i, none⟩ = w.cell? ⟨b, i, none⟩ := (lay_extends w L).cell (p := ⟨b, i, none⟩) h
@[go_sem] theorem lay_oldf (b : Nat) (h : b < w.heap.size) : (lay w L).frozen? ⟨b, i, none⟩ = w.frozen? ⟨b, i, none⟩ := (lay_extends w L).frozen (p := ⟨b, i, none⟩) h
@[go_sem] theorem lay_oldb (b : Nat) (h : b < w.heap.size) : (lay w L).heap[b]? = w.heap[b]? := (lay_extends w L).block b h
@[go_sem] theorem lay_olds (b : Nat) (h : b < w.heap.size) : (lay w L).shape? b = w.shape? b := by unfold World.shape?; rw [lay_oldb w L b h]
@[go_sem] theorem lt_posn (p : List Nat) (b : Nat) (h : b < w.heap.size) : (b < posn w p) = True := eq_true (by unfold posn; omega)
@[go_sem] theorem le_posn (p : List Nat) (b : Nat) (h : b < w.heap.size) : (b ≤ posn w p) = True := eq_true (by unfold posn; omega)
@[go_sem] theorem base_le_posn (p : List Nat) : (w.heap.size ≤ posn w p) = True := eq_true (by unfold posn; omega)

end
/-- Is the segment at a depth a block of cells? -/
def isC : List (Obj ⊕ Ext) → Nat → Bool
  | .inl (.cells _ _ _) :: _, 0 => true
  | _ :: L, n + 1 => isC L n
  | _, _ => false
@[go_sem] theorem isC_0 (c : Array Value) (t : TypeId) (f : Nat × Nat) (L : List (Obj ⊕ Ext)) : isC (.inl (.cells c t f) :: L) 0 = true := rfl
@[go_sem] theorem isC_s (x : Obj ⊕ Ext) (L : List (Obj ⊕ Ext)) (n : Nat) : isC (x :: L) (n + 1) = isC L n := by cases x with | inl o => cases o <;> rfl | inr d => rfl

theorem lay_get (w : World) : ∀ (L : List (Obj ⊕ Ext)) (k : Nat) (o : Obj), objS L k = some o → (lay w L).heap[posn w ((shp L).drop (k + 1))]? = some o
  | [], k, o, h => by cases k <;> simp [objS] at h
  | .inl o' :: L, 0, o, h => by
    simp only [objS, Option.some.injEq] at h
    subst h
    simp only [shp, List.drop_succ_cons, List.drop_zero, ← lay_size]
    show ((lay w L).heap.push o')[_]? = _
    simp
  | .inr d :: L, 0, o, h => by simp [objS] at h
  | x :: L, k + 1, o, h => by
    rw [objS_s] at h
    have ih := lay_get w L k o h
    have hlt := (Array.getElem?_eq_some_iff.1 ih).1
    cases x with
    | inl o' => simp only [shp, List.drop_succ_cons]; exact (Below.heap_alloc _ _ _ hlt).trans ih
    | inr d => simp only [shp, List.drop_succ_cons]; exact (bw_get _ _ _ hlt).trans ih
theorem obj_of_isC : ∀ (L : List (Obj ⊕ Ext)) (k : Nat), isC L k = true → ∃ c t f, objS L k = some (.cells c t f)
  | [], k, h => by cases k <;> simp [isC] at h
  | .inl (.cells c t f) :: L, 0, _ => ⟨c, t, f, rfl⟩
  | x :: L, k + 1, h => by rw [isC_s] at h; rw [objS_s]; exact obj_of_isC L k h
  | .inr _ :: _, 0, h => by simp [isC] at h
  | .inl (.pending _ _) :: _, 0, h => by simp [isC] at h
  | .inl (.view _ _) :: _, 0, h => by simp [isC] at h
  | .inl (.number _ _) :: _, 0, h => by simp [isC] at h
  | .inl (.map _ _) :: _, 0, h => by simp [isC] at h
  | .inl (.chan _ _ _ _ _ _) :: _, 0, h => by simp [isC] at h
  | .inl (.stringIter _ _) :: _, 0, h => by simp [isC] at h
  | .inl (.mapIter _ _ _ _) :: _, 0, h => by simp [isC] at h
  | .inl (.loop _) :: _, 0, h => by simp [isC] at h
  | .inl (.deferred _) :: _, 0, h => by simp [isC] at h
  | .inl (.coro _) :: _, 0, h => by simp [isC] at h
  | .inl (.finalizers _ _) :: _, 0, h => by simp [isC] at h
theorem cellS_of : ∀ (L : List (Obj ⊕ Ext)) (k i : Nat) (c : Array Value) (t : TypeId) (f : Nat × Nat), objS L k = some (.cells c t f) → cellS L k i = c[i]? ∧ frozS L k i = (decide (f.1 ≤ i) && decide (i < f.2))
  | [], k, _, _, _, _, h => by cases k <;> simp [objS] at h
  | .inl o :: L, 0, _, _, _, _, h => by simp only [objS, Option.some.injEq] at h; subst h; exact ⟨rfl, rfl⟩
  | .inr _ :: _, 0, _, _, _, _, h => by simp [objS] at h
  | x :: L, k + 1, i, c, t, f, h => by rw [objS_s] at h; rw [cellS_s, frozS_s]; exact cellS_of L k i c t f h
theorem lay_set (w : World) (i : Nat) (v : Value) : ∀ (L : List (Obj ⊕ Ext)) (k : Nat), isC L k = true → (lay w L).setCell ⟨posn w ((shp L).drop (k + 1)), i, none⟩ v = lay w (updS L k i v)
  | [], k, h => by cases k <;> simp [isC] at h
  | .inl o :: L, 0, h => by
    cases o with
    | cells c t f =>
      simp only [shp, List.drop_succ_cons, List.drop_zero, ← lay_size, lay, updS]
      unfold World.setCell World.alloc
      congr 1
      apply Array.ext_getElem?
      intro k
      rw [Array.getElem?_modify]
      by_cases hk : (lay w L).heap.size = k
      · subst hk; simp
      · have hk' : k ≠ (lay w L).heap.size := fun e => hk e.symm
        simp [hk, hk', Array.getElem?_push]
    | _ => simp [isC] at h
  | .inr d :: L, 0, h => by simp [isC] at h
  | x :: L, k + 1, h => by
    rw [isC_s] at h
    have ih := lay_set w i v L k h
    obtain ⟨c, t, f, ho⟩ := obj_of_isC L k h
    have hlt := (Array.getElem?_eq_some_iff.1 (lay_get w L k _ ho)).1
    rw [updS_s]
    cases x with
    | inl o' => simp only [shp, List.drop_succ_cons, lay]; rw [World.setCell_alloc_past _ _ _ _ hlt, ih]
    | inr d => simp only [shp, List.drop_succ_cons, lay]; rw [bw_setCell _ _ _ _ _ hlt, ih]

section
variable (w : World) (L : List (Obj ⊕ Ext)) (p : List Nat) (i : Nat) (v : Value)
theorem depth_eq (h : (shp L).drop (L.length - p.length) = p) (h2 : p.length < L.length) : p = (shp L).drop (L.length - p.length - 1 + 1) := by
  rw [show L.length - p.length - 1 + 1 = L.length - p.length by omega]; exact h.symm
@[go_sem] theorem lay_cell (h2 : p.length < L.length) (h : (shp L).drop (L.length - p.length) = p) (h3 : isC L (L.length - p.length - 1) = true) :
    (lay w L).cell? ⟨posn w p, i, none⟩ = cellS L (L.length - p.length - 1) i := by
  obtain ⟨c, t, f, ho⟩ := obj_of_isC L _ h3
  have := lay_get w L _ _ ho
  rw [← depth_eq L p h h2] at this
  rw [(cellS_of L _ i c t f ho).1]
  simp [World.cell?, this]
@[go_sem] theorem lay_froz (h2 : p.length < L.length) (h : (shp L).drop (L.length - p.length) = p) (h3 : isC L (L.length - p.length - 1) = true) :
    (lay w L).frozen? ⟨posn w p, i, none⟩ = frozS L (L.length - p.length - 1) i := by
  obtain ⟨c, t, f, ho⟩ := obj_of_isC L _ h3
  have := lay_get w L _ _ ho
  rw [← depth_eq L p h h2] at this
  rw [(cellS_of L _ i c t f ho).2]
  obtain ⟨f1, f2⟩ := f
  simp [World.frozen?, this]
@[go_sem] theorem lay_setCell (h2 : p.length < L.length) (h : (shp L).drop (L.length - p.length) = p) (h3 : isC L (L.length - p.length - 1) = true) :
    (lay w L).setCell ⟨posn w p, i, none⟩ v = lay w (updS L (L.length - p.length - 1) i v) := by
  have := lay_set w i v L _ h3
  rw [← depth_eq L p h h2] at this
  exact this
@[go_sem] theorem lay_heap (h2 : p.length < L.length) (h : (shp L).drop (L.length - p.length) = p) (h3 : (objS L (L.length - p.length - 1)).isSome = true) :
    (lay w L).heap[posn w p]? = objS L (L.length - p.length - 1) := by
  obtain ⟨o, ho⟩ := Option.isSome_iff_exists.1 h3
  have := lay_get w L _ _ ho
  rw [← depth_eq L p h h2] at this
  rw [this, ho]
end
theorem lay_start {P : Program} {f : FuncId} {args : Array Value} {w : World} {R : Ending → World → Prop} (h : Calls P f args (lay w []) R) : Calls P f args w R := h
/-- A contract at a world of the class leaves a world of the class. -/
theorem bq {P : Program} {f : FuncId} {args : Array Value} {W : World} {v : Value} {C : World → Prop}
    (h : Calls P f args W fun e w' => e = .returned v ∧ ∃ d, w' = bw W d) (hC : ∀ d, C (bw W d)) : Calls P f args W fun e w' => e = .returned v ∧ C w' :=
  h.mono fun _ _ ⟨he, d, hw⟩ => ⟨he, by rw [hw]; exact hC d⟩
theorem bqs {P : Program} {f : FuncId} {args : Array Value} {W : World} {v : Value} {C : World → Prop}
    (h : Calls P f args W fun e w' => e = .returned v ∧ w' = W) (hC : C W) : Calls P f args W fun e w' => e = .returned v ∧ C w' :=
  h.mono fun _ _ ⟨he, hw⟩ => ⟨he, by rw [hw]; exact hC⟩
theorem lay_join (w : World) (L : List (Obj ⊕ Ext)) (d e : Ext) : ∃ x, bw (lay w (.inr d :: L)) e = lay w (.inr x :: L) := ⟨_, bw_bw (lay w L) d e⟩
/-- A cell that reads so reads so in each world further on. -/
theorem cell_on {w : World} {L : List (Obj ⊕ Ext)} {b i : Nat} {v : Value} (h : (lay w L).cell? ⟨b, i, none⟩ = some v) (x : Obj ⊕ Ext) : (lay w (x :: L)).cell? ⟨b, i, none⟩ = some v := by
  have hlt := World.block_lt_of_cell? _ _ h
  cases x with
  | inl o => exact (World.cell?_alloc_past _ _ _ hlt).trans h
  | inr d => exact (bw_cell _ _ _ _ hlt).trans h
structure CellMore (w : World) (L : List (Obj ⊕ Ext)) (b i : Nat) (v : Value) : Prop where
  m0 : (lay w L).cell? ⟨b, i, none⟩ = some v
  m1 : ∀ x1, (lay w (x1 :: L)).cell? ⟨b, i, none⟩ = some v
  m2 : ∀ x1 x2, (lay w (x1 :: x2 :: L)).cell? ⟨b, i, none⟩ = some v
  m3 : ∀ x1 x2 x3, (lay w (x1 :: x2 :: x3 :: L)).cell? ⟨b, i, none⟩ = some v
  m4 : ∀ x1 x2 x3 x4, (lay w (x1 :: x2 :: x3 :: x4 :: L)).cell? ⟨b, i, none⟩ = some v
  m5 : ∀ x1 x2 x3 x4 x5, (lay w (x1 :: x2 :: x3 :: x4 :: x5 :: L)).cell? ⟨b, i, none⟩ = some v
  m6 : ∀ x1 x2 x3 x4 x5 x6, (lay w (x1 :: x2 :: x3 :: x4 :: x5 :: x6 :: L)).cell? ⟨b, i, none⟩ = some v
theorem cell_more {w : World} {L : List (Obj ⊕ Ext)} {b i : Nat} {v : Value} (h : (lay w L).cell? ⟨b, i, none⟩ = some v) : CellMore w L b i v :=
  ⟨h, fun _ => cell_on h _, fun _ _ => cell_on (cell_on h _) _, fun _ _ _ => cell_on (cell_on (cell_on h _) _) _, fun _ _ _ _ => cell_on (cell_on (cell_on (cell_on h _) _) _) _,
    fun _ _ _ _ _ => cell_on (cell_on (cell_on (cell_on (cell_on h _) _) _) _) _, fun _ _ _ _ _ _ => cell_on (cell_on (cell_on (cell_on (cell_on (cell_on h _) _) _) _) _) _⟩
theorem lay_exb (w : World) (L : List (Obj ⊕ Ext)) (d : Ext) : ∃ e, bw (lay w L) d = bw w e := lay_ex w (.inr d :: L)
end Go.Proofs.YtmmfkleplbofgaaGreatDoor
/- The step from a law's walk to its row: every argument reads behind the call as it did before; the result is true. -/
namespace Go.Proofs.YtmmfkleplbofgaaGreatDoor
open Go.ChangeShapes Go.WideShapes Go.ChangeAt Go.RowKit Go.Joins

theorem ownKnob_none : ownKnob Tryz.prog.godebug = none := by kernel_rfl
theorem laid_out : laidOutB Tryz.prog = true := by kernel_rfl

theorem trodAll_stays {H : Type} {enc : TypeId × Value → H} {P : Program} (hl : laidOutB P = true) {W W' : World} (hb : Below W.heap.size W W') :
    ∀ (ts : List TypeId) (vs : List Value) (ds : List (DataW H)) (ps : List MemPlace), ts.all (fun t => P.readableRec t && decide (t < P.types.size)) = true →
    (∀ x ∈ ps, x.block < W.heap.size) → DataW.TrodAll enc P W 0 (fun _ => true) true ts vs ds ps → DataW.TrodAll enc P W' 0 (fun b => decide (b < W.heap.size)) true ts vs ds ps
  | [], vs, ds, ps, _, _, h => by cases vs <;> cases ds <;> simp_all [DataW.TrodAll]
  | t :: ts, vs, ds, ps, hr, hlt, h => by
    obtain ⟨v, vs', d, ds', p, q, rfl, rfl, rfl, h1, h2⟩ := trodAll_cons h
    simp only [List.all_cons, Bool.and_eq_true, decide_eq_true_eq] at hr
    exact ⟨p, q, Below.trod hl hr.1.1 hr.1.2 h1 hb (fun x hx => hlt x (List.mem_append_left _ hx)),
      trodAll_stays hl hb ts vs' ds' q hr.2 (fun x hx => hlt x (List.mem_append_right _ hx)) h2, rfl⟩

theorem law_post {H : Type} {enc : TypeId × Value → H} {P : Program} {f : Func} {s : ChangeSpec} {W W' : World} {args : Array Value} {ds : List (DataW H)} {before : List MemPlace} {tb : TypeId}
    (hl : laidOutB P = true) (hW : DataW.Whole enc P f.params.toList s.vars false W args.toList ds [] before) (hv : s.vars = [])
    (hs : s.fn H (ds ++ []) = { results := [.lit (.bool true)], args := ds }) (hrt : f.resultTypes = #[tb]) (htb : P.underlying tb = some .bool)
    (hr : f.params.toList.all (fun t => P.readableRec t && decide (t < P.types.size)) = true) (hb : Below W.heap.size W W') :
    s.post enc P f false true false false W args (.bool true) W' := by
  have hlt := hW.lt
  have hW' := hW
  obtain ⟨p, q, hA, hV, rfl, hfz, hnd⟩ := hW'
  rw [hv] at hV
  have hq : q = [] := by simpa [DataW.TrodVars] using hV
  subst hq
  simp only [List.append_nil] at hlt hW
  refine ⟨ds, [], p, [], p, [], hW, ?_, ?_, ?_, hb.frame _, fun h => by cases h⟩
  · rw [hs, hrt]
    exact ⟨[], [], shut_bool htb true, rfl, rfl⟩
  · rw [hs]
    exact trodAll_stays hl hb _ _ _ _ hr hlt hA
  · rw [hs, hv]
    rfl
end Go.Proofs.YtmmfkleplbofgaaGreatDoor
/- A region that draws its order, with one 'alloc' that waits for nothing, quiet operations beside it, and a tail behind all of them. No program in sight. -/
namespace Go.Proofs.YtmmfkleplbofgaaGreatDoor
open Go.RowKit

/-- What is asked of an operation's run: its value in the very world, or a call that hands it back and only adds to the world. -/
def extUpon (P : Program) (w : World) (v : Value) : Result Next → Prop
  | .ok (.value u) w' => w' = w ∧ u = v
  | .ok .skip w' => w' = w ∧ v = undef
  | .ok (.enter f args) w' => w' = w ∧ Calls P f args w (fun e w'' => e = .returned v ∧ ∃ d, w'' = bw w d)
  | _ => False
def extOp (P : Program) (o : Oper) (a : Act) (W : World) (next : Act → Prop) : Prop := ∃ v, (∀ d : Ext, extUpon P (bw W d) v ((execOp a.eval o).run P (bw W d))) ∧ next (a.put o.dst v)
/-- The walk in the text's order. -/
def wpExt (P : Program) (ops : Array Oper) (W : World) (Q : Act → Prop) : List Oper → Act → Prop
  | [], a => Q a
  | o :: rest, a => if Region.wanted o (yielded ops a.tmps) then extOp P o a W (wpExt P ops W Q rest) else wpExt P ops W Q rest (a.put o.dst undef)
attribute [go_sem] extOp extUpon

section
variable {P : Program} {ops : Array Oper} {md : Region.Mode} {W : World}
theorem wpExt_nil {Q : Act → Prop} {a : Act} (h : Q a) : wpExt P ops W Q [] a := h
theorem wpExt_step {Q : Act → Prop} {a : Act} {o : Oper} {rest : List Oper}
    (h : ∀ K : Act → Prop, (∀ a, wpExt P ops W Q rest a → K a) → if Region.wanted o (yielded ops a.tmps) then extOp P o a W K else K (a.put o.dst undef)) : wpExt P ops W Q (o :: rest) a :=
  h _ (fun _ h => h)

def eOp (P : Program) (ops : Array Oper) (W : World) (i : Nat) (K : Act → Prop) (a : Act) : Prop :=
  match ops[i]? with
  | none => K a
  | some o => if Region.wanted o (yielded ops a.tmps) then extOp P o a W K else K (a.put o.dst undef)
theorem eOp_some {i : Nat} {o : Oper} {K : Act → Prop} {a : Act} (hi : ops[i]? = some o) :
    eOp P ops W i K a = if Region.wanted o (yielded ops a.tmps) then extOp P o a W K else K (a.put o.dst undef) := by unfold eOp; rw [hi]
theorem eOp_mono {i : Nat} {a : Act} {K K' : Act → Prop} (h : ∀ a, K a → K' a) (hh : eOp P ops W i K a) : eOp P ops W i K' a := by
  cases ho : ops[i]? with
  | none => simp only [eOp, ho] at hh ⊢; exact h _ hh
  | some o =>
    rw [eOp_some ho] at hh ⊢
    split
    · rename_i hw; rw [if_pos hw] at hh; obtain ⟨v, h1, h2⟩ := hh; exact ⟨v, h1, h _ h2⟩
    · rename_i hw; rw [if_neg hw] at hh; exact h _ hh
/-- In state a the operation yields v, in every world of the class. -/
def YieldsE (P : Program) (ops : Array Oper) (W : World) (o : Oper) (v : Value) (a : Act) : Prop :=
  (Region.wanted o (yielded ops a.tmps) = true ∧ ∀ d : Ext, extUpon P (bw W d) v ((execOp a.eval o).run P (bw W d))) ∨ (Region.wanted o (yielded ops a.tmps) = false ∧ v = undef)
theorem YieldsE.eOp {i : Nat} {o : Oper} {v : Value} {a : Act} (hi : ops[i]? = some o) (hy : YieldsE P ops W o v a) {K : Act → Prop} (h : K (a.put o.dst v)) : eOp P ops W i K a := by
  rw [eOp_some hi]
  rcases hy with ⟨hw, hv⟩ | ⟨hw, rfl⟩
  · rw [if_pos hw]; exact ⟨v, hv, h⟩
  · rw [if_neg (by rw [hw]; exact Bool.false_ne_true)]; exact h
theorem yieldsE_of {i : Nat} {o : Oper} {a : Act} {K : Act → Prop} (hi : ops[i]? = some o) (h : Go.Proofs.YtmmfkleplbofgaaGreatDoor.eOp P ops W i K a) : ∃ v, YieldsE P ops W o v a ∧ K (a.put o.dst v) := by
  rw [eOp_some hi] at h
  by_cases hw : Region.wanted o (yielded ops a.tmps) = true
  · rw [if_pos hw] at h
    obtain ⟨v, h1, h2⟩ := h
    exact ⟨v, .inl ⟨hw, h1⟩, h2⟩
  · rw [if_neg hw] at h
    exact ⟨undef, .inr ⟨by simpa using hw, rfl⟩, h⟩
theorem eOp_put {j : Nat} {oi oj : Oper} {v : Value} (hj : ops[j]? = some oj) (hap : oi.apart ops oj = true)
    (hsi : ∀ cs b, oi.op ≠ .select cs b) (hsj : ∀ cs b, oj.op ≠ .select cs b) {K : Act → Prop} {a : Act}
    (hy : YieldsE P ops W oi v a) (h : eOp P ops W j K (a.put oi.dst v)) :
    eOp P ops W j (fun a' => YieldsE P ops W oi v a' ∧ K (a'.put oi.dst v)) a := by
  obtain ⟨h1, h2, h3⟩ := Oper.apart_spec hap
  have keep : ∀ u, YieldsE P ops W oi v (a.put oj.dst u) := fun u => by
    unfold YieldsE at *
    rw [execOp_put oi hsi a oj.dst u h3, wanted_put oi a oj.dst u h3]
    exact hy
  rw [eOp_some hj, wanted_put oj a oi.dst v h1] at h
  rw [eOp_some hj]
  split
  · rename_i hw
    rw [if_pos hw] at h
    obtain ⟨u, hu, hn⟩ := h
    refine ⟨u, fun d => ?_, keep u, by rw [← Act.put_comm a v u h2]; exact hn⟩
    have := hu d
    rwa [execOp_put oj hsj a oi.dst v h1] at this
  · rename_i hw
    rw [if_neg hw] at h
    exact ⟨keep _, by rw [← Act.put_comm a v undef h2]; exact h⟩

def headE (P : Program) (md : Region.Mode) (ops : Array Oper) (W : World) (n : Nat) (L : Array Bool → Act → Prop) : Nat → Array Bool → Act → Prop
  | 0, listed, a => L listed a
  | f + 1, listed, a => Region.ready md ops listed ≠ [] ∧ ∀ i ∈ Region.ready md ops listed, i < n ∧ eOp P ops W i (headE P md ops W n L f (listed.setIfInBounds i true)) a

theorem headE_first {n i : Nat} {oi : Oper} {v : Value} {L : Array Bool → Act → Prop} (hi : ops[i]? = some oi) (hsel : ∀ (j : Nat) (o : Oper) cs b, ops[j]? = some o → o.op ≠ .select cs b)
    (hs : Region.sinkB md ops n = true) (hc : Region.chainB md ops n = true) (hn : n < ops.size) (hin : i < n)
    (hdone : ∀ listed a, L listed a → ∀ j ∈ Region.ready md ops listed, n ≤ j) (f : Nat) :
    ∀ (listed : Array Bool) (a : Act), HeadInv md ops n listed →
      (∀ j oj, ops[j]? = some oj → j ≠ i → listed.getD j true = false → (∀ e ∈ oj.after, Region.binds md e = true → e.on ≠ i) → oi.apart ops oj = true) →
      i ∈ Region.ready md ops listed → YieldsE P ops W oi v a →
      headE P md ops W n L f (listed.setIfInBounds i true) (a.put oi.dst v) → headE P md ops W n L (f + 1) listed a := by
  induction f with
  | zero =>
    intro listed a inv _ hr hy H
    have hun := (mem_ready.1 hr).1
    have early : ∀ j ∈ Region.ready md ops listed, j < n := fun j hj =>
      Nat.lt_of_not_le fun hle => tail_waits hs hc hn inv _ i rfl hin hun j hle hj
    refine ⟨List.ne_nil_of_mem hr, fun j hj => ⟨early j hj, ?_⟩⟩
    by_cases hji : j = i
    · subst hji; exact hy.eOp hi H
    · exact absurd (hdone _ _ H j (ready_mono hj hji)) (Nat.not_le_of_lt (early j hj))
  | succ f ih =>
    intro listed a inv hfree hr hy H
    have hun := (mem_ready.1 hr).1
    have early : ∀ j ∈ Region.ready md ops listed, j < n := fun j hj =>
      Nat.lt_of_not_le fun hle => tail_waits hs hc hn inv _ i rfl hin hun j hle hj
    refine ⟨List.ne_nil_of_mem hr, fun j hj => ⟨early j hj, ?_⟩⟩
    by_cases hji : j = i
    · subst hji; exact hy.eOp hi H
    · have h1 := (H.2 j (ready_mono hj hji)).2
      obtain ⟨hjun, oj, hoj, hall⟩ := mem_ready.1 hj
      have hnot : ∀ e ∈ oj.after, Region.binds md e = true → e.on ≠ i := fun e he hb heq => by
        have h2 := hall e he hb
        rw [heq, getD_both hun] at h2
        cases h2
      have h2 := eOp_put hoj (hfree j oj hoj hji hjun hnot) (fun cs b => hsel i oi cs b hi) (fun cs b => hsel j oj cs b hoj) hy h1
      have hfree' : ∀ k ok, ops[k]? = some ok → k ≠ i → (listed.setIfInBounds j true).getD k true = false →
          (∀ e ∈ ok.after, Region.binds md e = true → e.on ≠ i) → oi.apart ops ok = true := fun k ok hk hki hu hno => by
        refine hfree k ok hk hki ?_ hno
        by_cases hjk : j = k
        · subst hjk; exact hjun
        · rw [getD_set_ne true hjk] at hu; exact hu
      refine eOp_mono (fun a' h3 => ih (listed.setIfInBounds j true) a' (inv.set hj (early j hj)) hfree' (ready_mono hr (Ne.symm hji)) h3.1 ?_) h2
      rw [Array.setIfInBounds_comm _ _ hji]
      exact h3.2

/-- The text's order serves, the operation kA left out (it is listed from the beginning). -/
def lexA (md : Region.Mode) (ops : Array Oper) (g kA : Nat) : Nat → Nat → Array Bool → Bool
  | 0, k, listed => Region.seqB md ops g k listed
  | f + 1, k, listed => if k = kA then lexA md ops g kA f (k + 1) listed else (Region.ready md ops listed).contains k && Region.free md ops listed k && lexA md ops g kA f (k + 1) (listed.setIfInBounds k true)
def skipL (kA : Nat) : Nat → List Oper → List Oper
  | _, [] => []
  | k, o :: l => if k = kA then skipL kA (k + 1) l else o :: skipL kA (k + 1) l
theorem headE_lex {n g kA : Nat} {Lq : Act → Prop} (hsel : Region.noSelect ops = true) (hs : Region.sinkB md ops n = true) (hc : Region.chainB md ops n = true) (hn : n < ops.size) :
    ∀ (l : List Oper) (k : Nat) (listed : Array Bool) (a : Act), (∀ j, j < l.length → l[j]? = ops[k + j]?) → k + l.length = n → HeadInv md ops n listed →
    lexA md ops g kA l.length k listed = true → wpExt P ops W Lq (skipL kA k l) a →
    headE P md ops W n (fun listed' a' => Region.seqB md ops g n listed' = true ∧ Lq a') (skipL kA k l).length listed a
  | [], k, listed, a, _, hk, _, hB, h => by
    obtain rfl : k = n := by simpa using hk
    exact ⟨by simpa [lexA] using hB, h⟩
  | o :: l, k, listed, a, hl, hk, inv, hB, h => by
    have h0 : ops[k]? = some o := by simpa using (hl 0 (by simp)).symm
    simp only [List.length_cons] at hk
    have hrest : ∀ j, j < l.length → l[j]? = ops[k + 1 + j]? := fun j hj => by have := hl (j + 1) (by simp; omega); simpa [Nat.add_assoc, Nat.add_comm 1 j] using this
    by_cases hkA : k = kA
    · simp only [List.length_cons, lexA, hkA, if_true] at hB
      simp only [skipL, hkA, if_true] at h ⊢
      subst hkA
      exact headE_lex hsel hs hc hn l (k + 1) listed a hrest (by omega) inv hB h
    · simp only [List.length_cons, lexA, hkA, if_false, Bool.and_eq_true] at hB
      simp only [skipL, hkA, if_false] at h ⊢
      obtain ⟨⟨hr, hf⟩, hB'⟩ := hB
      have hkn : k < n := by omega
      have hr' : k ∈ Region.ready md ops listed := by simpa using hr
      have hst : eOp P ops W k (wpExt P ops W Lq (skipL kA (k + 1) l)) a := by rw [eOp_some h0]; exact h
      obtain ⟨v, hy, hK⟩ := yieldsE_of h0 hst
      exact headE_first h0 (Region.noSelect_spec hsel) hs hc hn hkn (fun listed' a' hL => seqB_ready hL.1) _ listed a inv (Region.free_spec h0 hf) hr' hy
        (headE_lex hsel hs hc hn l (k + 1) _ _ hrest (by omega) (inv.set hr' hkn) hB' hK)

/-- One operation of the head, in a state in which the new block's address may already stand in its slot. -/
theorem wpOp_of_eOp {j : Nat} {K : Act → Prop} {K' : Act → World → Prop} {Q' : Exit → Act → World → Prop} {a : Act} {w : World} {dA : Option Tmp} {u : Value}
    (hC : ∃ d, w = bw W d) (hap : ∀ o, ops[j]? = some o → (∀ d, dA = some d → d ∉ o.looksAt ops) ∧ (∀ d, o.dst = some d → dA ≠ some d) ∧ ∀ cs b, o.op ≠ .select cs b)
    (h : ∀ a' d, K a' → K' (a'.put dA u) (bw w d)) (h0 : ∀ a', K a' → K' (a'.put dA u) w) (hh : eOp P ops W j K a) : wpOp P ops Q' j K' (a.put dA u) w := by
  unfold wpOp
  cases ho : ops[j]? with
  | none => simp only [eOp, ho] at hh; exact h0 _ hh
  | some o =>
    obtain ⟨p1, p2, p3⟩ := hap o ho
    rw [eOp_some ho] at hh
    simp only
    rw [wanted_put o a dA u p1]
    split
    · rename_i hw
      rw [if_pos hw] at hh
      obtain ⟨v, h1, h2⟩ := hh
      refine Or.inl ?_
      unfold Oper.wp
      rw [execOp_put o p3 a dA u p1]
      obtain ⟨d, hd⟩ := hC
      have h3 := h1 d
      rw [← hd] at h3
      have hput : ∀ x, (a.put dA u).put o.dst x = (a.put o.dst x).put dA u := fun x => (Act.put_comm a x u p2).symm
      generalize (execOp a.eval o).run P w = r at *
      cases r with
      | ok nx w' =>
        cases nx <;> simp only [extUpon] at h3 <;> simp only [Oper.upon]
        case value x => obtain ⟨e1, e2⟩ := h3; rw [e1, e2, hput]; exact h0 _ h2
        case skip => obtain ⟨e1, e2⟩ := h3; rw [e1, ← e2, hput]; exact h0 _ h2
        case enter f args =>
          obtain ⟨e1, hc⟩ := h3
          rw [e1]
          refine hc.mono fun e w'' ⟨he, dd, hw''⟩ => ?_
          subst he
          show K' ((a.put dA u).put o.dst v) w''
          rw [hw'', hput]
          exact h _ dd h2
      | halt x w' => simp only [extUpon] at h3
    · rename_i hw
      rw [if_neg hw] at hh
      rw [show (a.put dA u).put o.dst undef = (a.put o.dst undef).put dA u from (Act.put_comm a undef u p2).symm]
      exact h0 _ hh

/-- The new block lies in the world as it was made. -/
def Fresh (W : World) (obj : Obj) (p : Nat) (w : World) : Prop := (∃ d, w = bw W d) ∧ W.heap.size ≤ p ∧ w.heap[p]? = some obj
theorem Fresh.bw {obj : Obj} {p : Nat} {w : World} (h : Fresh W obj p w) (d : Ext) : Fresh W obj p (bw w d) := by
  obtain ⟨⟨e, rfl⟩, h2, h3⟩ := h
  exact ⟨⟨_, bw_bw W e d⟩, h2, (bw_get _ _ _ (Array.getElem?_eq_some_iff.1 h3).1).trans h3⟩

/-- Such a world written out. -/
theorem Fresh.split {obj : Obj} {p : Nat} {w : World} (h : Fresh W obj p w) : ∃ d1 d2, w = Go.Proofs.YtmmfkleplbofgaaGreatDoor.bw ((Go.Proofs.YtmmfkleplbofgaaGreatDoor.bw W d1).alloc obj) d2 ∧ p = (Go.Proofs.YtmmfkleplbofgaaGreatDoor.bw W d1).heap.size := by
  obtain ⟨⟨d, rfl⟩, h2, h3⟩ := h
  have h4 : d.blocks[p - W.heap.size]? = some obj := by
    simp only [Go.Proofs.YtmmfkleplbofgaaGreatDoor.bw, Array.getElem?_append] at h3
    rwa [if_neg (by omega)] at h3
  obtain ⟨hk, h5⟩ := Array.getElem?_eq_some_iff.1 h4
  refine ⟨⟨d.blocks.extract 0 (p - W.heap.size), 0⟩, ⟨d.blocks.extract (p - W.heap.size + 1) d.blocks.size, d.drawn⟩, ?_, ?_⟩
  · show ({ W with heap := W.heap ++ d.blocks, drawn := d.drawn } : World) = { W with heap := (W.heap ++ d.blocks.extract 0 (p - W.heap.size)).push obj ++ d.blocks.extract (p - W.heap.size + 1) d.blocks.size, drawn := d.drawn }
    have e : W.heap ++ d.blocks = (W.heap ++ d.blocks.extract 0 (p - W.heap.size)).push obj ++ d.blocks.extract (p - W.heap.size + 1) d.blocks.size := by
      rw [← Array.append_push, Array.append_assoc]
      congr 1
      apply Array.ext_getElem?
      intro i
      simp only [Array.getElem?_append, Array.getElem?_push, Array.size_push, Array.size_extract, Array.getElem?_extract]
      by_cases h6 : i < p - W.heap.size
      · rw [if_pos (by omega), if_neg (by omega), if_pos (by omega)]; simp
      · by_cases h7 : i = p - W.heap.size
        · subst h7; rw [if_pos (by omega), if_pos (by omega), h4]
        · rw [if_neg (by omega)]
          by_cases h8 : i < d.blocks.size
          · rw [if_pos (by omega)]; congr 1; omega
          · rw [if_neg (by omega)]; exact Array.getElem?_eq_none (by omega)
    rw [e]
  · simp only [Go.Proofs.YtmmfkleplbofgaaGreatDoor.bw, Array.size_append, Array.size_extract]; omega

def apartB (ops : Array Oper) (n kA : Nat) (oA : Oper) : Bool := (List.range n).all fun j => j == kA || match ops[j]? with | some o => oA.apart ops o | none => true

theorem after_alloc {n g kA : Nat} {oA : Oper} {obj : Obj} {L : Array Bool → Act → Prop} {Q' : Exit → Act → World → Prop} (hsel : Region.noSelect ops = true) (hap : apartB ops n kA oA = true)
    (hL : ∀ listed a p w, Fresh W obj p w → L listed a → wpAny P md ops Q' g listed (a.put oA.dst (.pointer (some ⟨p, 0, none⟩))) w) :
    ∀ (f : Nat) (listed : Array Bool) (a : Act) (p : Nat) (w : World), Fresh W obj p w → listed.getD kA true = true → headE P md ops W n L f listed a →
      wpAny P md ops Q' (f + g) listed (a.put oA.dst (.pointer (some ⟨p, 0, none⟩))) w
  | 0, listed, a, p, w, hF, _, h => by rw [Nat.zero_add]; exact hL _ _ _ _ hF h
  | f + 1, listed, a, p, w, hF, hk, h => by
    rw [show f + 1 + g = (f + g) + 1 by omega]
    refine ⟨fun h0 => absurd h0 h.1, fun i hi => ?_⟩
    obtain ⟨hin, he⟩ := h.2 i hi
    have hne : i ≠ kA := fun e => by rw [e] at hi; rw [(mem_ready.1 hi).1] at hk; cases hk
    have hk' : (listed.setIfInBounds i true).getD kA true = true := by rw [getD_set_ne true hne]; exact hk
    refine wpOp_of_eOp hF.1 (fun o ho => ?_) (fun a' d hK => after_alloc hsel hap hL f _ a' p _ (hF.bw d) hk' hK) (fun a' hK => after_alloc hsel hap hL f _ a' p w hF hk' hK) he
    have h1 := List.all_eq_true.1 hap i (List.mem_range.2 hin)
    simp only [Bool.or_eq_true, beq_iff_eq, hne, false_or, ho] at h1
    obtain ⟨q1, q2, _⟩ := Oper.apart_spec h1
    exact ⟨q1, fun d hd hx => q2 d hx hd, fun cs b => Region.noSelect_spec hsel i o cs b ho⟩

theorem before_alloc {n g kA : Nat} {oA : Oper} {obj : Obj} {L : Array Bool → Act → Prop} {Q' : Exit → Act → World → Prop} (hsel : Region.noSelect ops = true) (hap : apartB ops n kA oA = true)
    (hA : ops[kA]? = some oA) (hno : oA.after = #[]) (hg : oA.guard = none) (hrun : ∀ (a : Act) (w : World), (execOp a.eval oA).run P w = .ok (.value (.pointer (some ⟨w.heap.size, 0, none⟩))) (w.alloc obj))
    (hwait : Region.waitsFor md ops n kA = true) (hchain : Region.chainB md ops n = true) (hkn : kA < n)
    (hdone : ∀ listed a, L listed a → ∀ j ∈ Region.ready md ops listed, j = n)
    (hL : ∀ listed a p w, Fresh W obj p w → L listed a → wpAny P md ops Q' g listed (a.put oA.dst (.pointer (some ⟨p, 0, none⟩))) w) :
    ∀ (f : Nat) (listed : Array Bool) (a : Act) (w : World), (∃ d, w = bw W d) → listed.getD kA true = false → headE P md ops W n L f (listed.setIfInBounds kA true) a →
      wpAny P md ops Q' (f + g + 1) listed a w := by
  intro f
  have atA : ∀ (f : Nat) (listed : Array Bool) (a : Act) (w : World), (∃ d, w = bw W d) → listed.getD kA true = false → headE P md ops W n L f (listed.setIfInBounds kA true) a →
      wpOp P ops Q' kA (wpAny P md ops Q' (f + g) (listed.setIfInBounds kA true)) a w := fun f listed a w hw hk h => by
    unfold wpOp
    rw [hA]
    simp only [Region.wanted, hg, if_true]
    refine Or.inl ?_
    unfold Oper.wp
    rw [hrun]
    simp only [Oper.upon]
    obtain ⟨d, rfl⟩ := hw
    refine after_alloc hsel hap hL f _ a _ _ ⟨?_, bw_le W d, ?_⟩ ?_ h
    · have hb := (bw_below W d).alloc (bw_le W d) obj
      exact bw_of hb
    · show ((bw W d).heap.push obj)[_]? = _
      simp
    · have hlt : kA < listed.size := by
        rcases Nat.lt_or_ge kA listed.size with h' | h'
        · exact h'
        · simp [Array.getElem?_eq_none h'] at hk
      simp [hlt]
  have rA : ∀ listed : Array Bool, listed.getD kA true = false → kA ∈ Region.ready md ops listed := fun listed hk => mem_ready.2 ⟨hk, oA, hA, fun e he => by rw [hno] at he; simp at he⟩
  induction f with
  | zero =>
    intro listed a w hw hk h
    rw [show 0 + g + 1 = (0 + g) + 1 by omega]
    refine ⟨fun h0 => absurd h0 (List.ne_nil_of_mem (rA listed hk)), fun i hi => ?_⟩
    by_cases hik : i = kA
    · subst hik; exact atA 0 listed a w hw hk h
    · have hin := hdone _ _ h i (ready_mono hi hik)
      exfalso
      subst hin
      obtain ⟨oj, hoj, e, he, hb, hon⟩ := Region.waitsFor_spec hwait
      obtain ⟨_, o', ho', hall⟩ := mem_ready.1 hi
      have : o' = oj := Option.some.inj (ho'.symm.trans hoj)
      subst this
      have h2 := hall e he hb
      rw [hon, getD_both hk] at h2
      cases h2
  | succ f ih =>
    intro listed a w hw hk h
    rw [show f + 1 + g + 1 = (f + g + 1) + 1 by omega]
    refine ⟨fun h0 => absurd h0 (List.ne_nil_of_mem (rA listed hk)), fun i hi => ?_⟩
    by_cases hik : i = kA
    · subst hik
      have := atA (f + 1) listed a w hw hk h
      rwa [show f + 1 + g = f + g + 1 by omega] at this
    · obtain ⟨hin, he⟩ := h.2 i (ready_mono hi hik)
      have hk' : (listed.setIfInBounds i true).getD kA true = false := by rw [getD_set_ne true hik]; exact hk
      have step : ∀ a' w', (∃ d, w' = bw W d) → headE P md ops W n L f ((listed.setIfInBounds kA true).setIfInBounds i true) a' → wpAny P md ops Q' (f + g + 1) (listed.setIfInBounds i true) a' w' := fun a' w' hw' hK =>
        ih _ a' w' hw' hk' (by rw [← Array.setIfInBounds_comm _ _ hik] at *; exact hK)
      have := wpOp_of_eOp (Q' := Q') (dA := none) (u := undef) (K' := wpAny P md ops Q' (f + g + 1) (listed.setIfInBounds i true)) hw
        (fun o ho => ⟨(fun d hd => nomatch hd), (fun d _ hx => nomatch hx), fun cs b => Region.noSelect_spec hsel i o cs b ho⟩)
        (fun a' d hK => step a' _ (by obtain ⟨e, rfl⟩ := hw; exact ⟨_, bw_bw W e d⟩) hK) (fun a' hK => step a' w hw hK) he
      exact this

def allocB (md : Region.Mode) (ops : Array Oper) (n kA : Nat) : Bool :=
  match ops[kA]? with
  | none => false
  | some oA => Region.noSelect ops && decide (n < ops.size) && decide (kA < n) && Region.sinkB md ops n && Region.chainB md ops n && Region.waitsFor md ops n kA && apartB ops n kA oA && oA.after.isEmpty && oA.guard.isNone &&
    decide ((skipL kA 0 (ops.toList.take n)).length + 1 = n) && lexA md ops (ops.size - n) kA n 0 ((Array.replicate ops.size false).setIfInBounds kA true)

/-- A region that draws its order, one 'alloc' (number kA) among quiet operations, the operations from n on behind all of them. -/
theorem region_bw_alloc {id : Nat} {Q : Exit → Act → World → Prop} {a : Act} {w : World} {l : List Oper} (n kA : Nat) (oA : Oper) (obj : Obj) (hm : P.follows .mixedOrders = true) (hB : allocB .any l.toArray n kA = true)
    (hA : l[kA]? = some oA) (hrun : ∀ (a : Act) (w : World), (execOp a.eval oA).run P w = .ok (.value (.pointer (some ⟨w.heap.size, 0, none⟩))) (w.alloc obj))
    (h : wpExt P l.toArray w (fun a' => ∀ d1 d2, wpList P l.toArray Q (l.drop n) (a'.put oA.dst (.pointer (some ⟨(Go.Proofs.YtmmfkleplbofgaaGreatDoor.bw w d1).heap.size, 0, none⟩))) (Go.Proofs.YtmmfkleplbofgaaGreatDoor.bw ((Go.Proofs.YtmmfkleplbofgaaGreatDoor.bw w d1).alloc obj) d2)) (skipL kA 0 (l.take n)) a) : (Code.region id l.toArray true).wp P Q a w := by
  have hA' : l.toArray[kA]? = some oA := by simpa using hA
  unfold allocB at hB
  rw [hA'] at hB
  simp only [Bool.and_eq_true, decide_eq_true_eq, Array.isEmpty_iff, Option.isNone_iff_eq_none] at hB
  obtain ⟨⟨⟨⟨⟨⟨⟨⟨⟨⟨hsel, hn⟩, hkn⟩, hs⟩, hc⟩, hwait⟩, hap⟩, hno⟩, hg⟩, hlen⟩, hlex⟩ := hB
  have hn' : n < l.length := by simpa using hn
  have htl : (l.take n).length = n := by simp; omega
  have hdl : (l.drop n).length = l.toArray.size - n := by simp
  have hkl : kA < l.length := by omega
  have inv0 : HeadInv .any l.toArray n ((Array.replicate l.toArray.size false).setIfInBounds kA true) := by
    refine ⟨by simp, fun j oj hj hl => ?_, fun t ht htl' => ?_⟩
    · by_cases hjk : kA = j
      · subst hjk
        have : oj = oA := Option.some.inj (hj.symm.trans hA')
        subst this
        intro e he; rw [hno] at he; simp at he
      · rw [getD_set_ne false hjk, getD_replicate_false] at hl; cases hl
    · rw [getD_set_ne true (by omega)]
      exact getD_in (by simpa using htl') (getD_replicate_false _ _)
  have H := headE_lex (md := .any) (g := l.toArray.size - n) (kA := kA) hsel hs hc hn (l.take n) 0 _ a (fun j hj => by
    have hj' : j < n := by rw [htl] at hj; exact hj
    simp [hj']) (by simpa using htl) inv0 (by rw [htl]; exact hlex) h
  refine wp_region_any hm ?_
  have hpos : 0 < l.toArray.size - n := by omega
  have := before_alloc (Q' := Q) (md := .any) (g := l.toArray.size - n) hsel hap hA' hno hg hrun hwait hc hkn (fun listed a' hL => by
    obtain ⟨g', hg'⟩ : ∃ g', l.toArray.size - n = g' + 1 := ⟨l.toArray.size - n - 1, by omega⟩
    intro j hj
    have hL1 := hL.1
    rw [hg'] at hL1
    simp only [Region.seqB, Bool.and_eq_true, decide_eq_true_eq] at hL1
    rw [hL1.1] at hj
    simpa using hj) (fun listed a' p w' hF hL => by
    obtain ⟨d1, d2, e1, e2⟩ := hF.split
    rw [e1, e2]
    have := wpAny_of_seq (md := .any) (Q' := Q) (ops := l.toArray) (l.drop n) n listed (a'.put oA.dst (.pointer (some ⟨(Go.Proofs.YtmmfkleplbofgaaGreatDoor.bw w d1).heap.size, 0, none⟩))) (Go.Proofs.YtmmfkleplbofgaaGreatDoor.bw ((Go.Proofs.YtmmfkleplbofgaaGreatDoor.bw w d1).alloc obj) d2) (fun j => by simp [List.getElem?_drop]) (by rw [hdl]; exact hL.1) (hL.2 d1 d2)
    rwa [hdl] at this) _ (Array.replicate l.toArray.size false) a { w with drawn := w.drawn + 1 } ⟨_, bw_drewExt w⟩ (by simp [hkl]) H
  have hlen' : (skipL kA 0 (l.take n)).length + 1 = n := hlen
  rw [show (skipL kA 0 (l.take n)).length + (l.toArray.size - n) + 1 = l.toArray.size by omega] at this
  exact this
end
/-! ### Two allocs -/
/-- A change of the frame that an operation does not see. -/
structure Harmless (ops : Array Oper) (o : Oper) (φ : Act → Act) : Prop where
  ev : ∀ a, execOp (φ a).eval o = execOp a.eval o
  wa : ∀ a, Region.wanted o (yielded ops (φ a).tmps) = Region.wanted o (yielded ops a.tmps)
  pu : ∀ a x, (φ a).put o.dst x = φ (a.put o.dst x)
theorem Harmless.id (ops : Array Oper) (o : Oper) : Harmless ops o (fun a => a) := ⟨fun _ => rfl, fun _ => rfl, fun _ _ => rfl⟩
theorem Harmless.put {ops : Array Oper} {o oA : Oper} {φ : Act → Act} (h : Harmless ops o φ) (hap : oA.apart ops o = true) (hs : ∀ cs b, o.op ≠ .select cs b) (u : Value) : Harmless ops o (fun a => (φ a).put oA.dst u) := by
  obtain ⟨q1, q2, _⟩ := Oper.apart_spec hap
  refine ⟨fun a => (execOp_put o hs (φ a) oA.dst u q1).trans (h.ev a), fun a => (wanted_put o (φ a) oA.dst u q1).trans (h.wa a), fun a x => ?_⟩
  show ((φ a).put oA.dst u).put o.dst x = (φ (a.put o.dst x)).put oA.dst u
  rw [← h.pu]
  exact Act.put_comm (φ a) u x q2
section
variable {P : Program} {ops : Array Oper} {md : Region.Mode} {W : World}
theorem wpOp_of_eOpH {j : Nat} {K : Act → Prop} {K' : Act → World → Prop} {Q' : Exit → Act → World → Prop} {a : Act} {w : World} {φ : Act → Act}
    (hC : ∃ d, w = Go.Proofs.YtmmfkleplbofgaaGreatDoor.bw W d) (hap : ∀ o, ops[j]? = some o → Harmless ops o φ) (hn : ∃ o, ops[j]? = some o)
    (h : ∀ a' d, K a' → K' (φ a') (Go.Proofs.YtmmfkleplbofgaaGreatDoor.bw w d)) (h0 : ∀ a', K a' → K' (φ a') w) (hh : eOp P ops W j K a) : wpOp P ops Q' j K' (φ a) w := by
  obtain ⟨o, ho⟩ := hn
  have H := hap o ho
  rw [eOp_some ho] at hh
  unfold wpOp
  simp only [ho]
  rw [H.wa]
  split
  · rename_i hw
    rw [if_pos hw] at hh
    obtain ⟨v, h1, h2⟩ := hh
    refine Or.inl ?_
    unfold Oper.wp
    rw [H.ev]
    obtain ⟨d, hd⟩ := hC
    have h3 := h1 d
    rw [← hd] at h3
    generalize (execOp a.eval o).run P w = r at *
    cases r with
    | ok nx w' =>
      cases nx <;> simp only [extUpon] at h3 <;> simp only [Oper.upon]
      case value x => obtain ⟨e1, e2⟩ := h3; rw [e1, e2, H.pu]; exact h0 _ h2
      case skip => obtain ⟨e1, e2⟩ := h3; rw [e1, ← e2, H.pu]; exact h0 _ h2
      case enter f args =>
        obtain ⟨e1, hc⟩ := h3
        rw [e1]
        refine hc.mono fun e w'' ⟨he, dd, hw''⟩ => ?_
        subst he
        show K' ((φ a).put o.dst v) w''
        rw [hw'', H.pu]
        exact h _ dd h2
    | halt x w' => simp only [extUpon] at h3
  · rename_i hw
    rw [if_neg hw] at hh
    rw [H.pu]
    exact h0 _ hh

/-- All allocs are through. -/
theorem go_none {n g : Nat} {φ : Act → Act} {Fr : World → Prop} {L : Array Bool → Act → Prop} {Q' : Exit → Act → World → Prop} (ks : List Nat) (hH : ∀ j o, j < n → j ∉ ks → ops[j]? = some o → Harmless ops o φ)
    (hF : ∀ w d, Fr w → Fr (Go.Proofs.YtmmfkleplbofgaaGreatDoor.bw w d)) (hFW : ∀ w, Fr w → ∃ d, w = Go.Proofs.YtmmfkleplbofgaaGreatDoor.bw W d)
    (hL : ∀ listed a w, Fr w → L listed a → wpAny P md ops Q' g listed (φ a) w) :
    ∀ (f : Nat) (listed : Array Bool) (a : Act) (w : World), Fr w → (∀ k ∈ ks, listed.getD k true = true) → headE P md ops W n L f listed a → wpAny P md ops Q' (f + g) listed (φ a) w
  | 0, listed, a, w, hw, _, h => by rw [Nat.zero_add]; exact hL _ _ _ hw h
  | f + 1, listed, a, w, hw, hk, h => by
    rw [show f + 1 + g = (f + g) + 1 by omega]
    refine ⟨fun h0 => absurd h0 h.1, fun i hi => ?_⟩
    obtain ⟨hin, he⟩ := h.2 i hi
    obtain ⟨hun, o, ho, _⟩ := mem_ready.1 hi
    have hik : i ∉ ks := fun hm => by rw [hk i hm] at hun; cases hun
    have hk' : ∀ k ∈ ks, (listed.setIfInBounds i true).getD k true = true := fun k hm => by
      rw [getD_set_ne true (by rintro rfl; exact hik hm)]; exact hk k hm
    exact wpOp_of_eOpH (hFW w hw) (fun o' ho' => hH i o' hin hik ho') ⟨o, ho⟩ (fun a' d hK => go_none ks hH hF hFW hL f _ a' _ (hF w d hw) hk' hK) (fun a' hK => go_none ks hH hF hFW hL f _ a' w hw hk' hK) he

/-- One alloc is still to come, number k; what is asked behind it is known. -/
theorem go_one {n g k : Nat} {oA : Oper} {obj : Obj} {φ : Act → Act} {Fr : World → Prop} {L : Array Bool → Act → Prop} {Q' : Exit → Act → World → Prop} (ks : List Nat)
    (hH : ∀ j o, j < n → j ∉ ks → j ≠ k → ops[j]? = some o → Harmless ops o φ)
    (hA : ops[k]? = some oA) (hno : oA.after = #[]) (hg : oA.guard = none) (hrun : ∀ (a : Act) (w : World), (execOp a.eval oA).run P w = .ok (.value (.pointer (some ⟨w.heap.size, 0, none⟩))) (w.alloc obj))
    (hwait : Region.waitsFor md ops n k = true)
    (hdone : ∀ listed a, L listed a → ∀ j ∈ Region.ready md ops listed, j = n)
    (hF : ∀ w d, Fr w → Fr (Go.Proofs.YtmmfkleplbofgaaGreatDoor.bw w d)) (hFW : ∀ w, Fr w → ∃ d, w = Go.Proofs.YtmmfkleplbofgaaGreatDoor.bw W d)
    (hnext : ∀ (f : Nat) (listed : Array Bool) (a : Act) (w : World), Fr w → (∀ k' ∈ ks, listed.getD k' true = true) → listed.getD k true = true → headE P md ops W n L f listed a →
      wpAny P md ops Q' (f + g) listed ((φ a).put oA.dst (.pointer (some ⟨w.heap.size, 0, none⟩))) (w.alloc obj)) :
    ∀ (f : Nat) (listed : Array Bool) (a : Act) (w : World), Fr w → (∀ k' ∈ ks, listed.getD k' true = true) → listed.getD k true = false → headE P md ops W n L f (listed.setIfInBounds k true) a →
      wpAny P md ops Q' (f + g + 1) listed (φ a) w := by
  intro f
  have hlt : ∀ listed : Array Bool, listed.getD k true = false → (listed.setIfInBounds k true).getD k true = true := fun listed hk => by
    have hlt : k < listed.size := by
      rcases Nat.lt_or_ge k listed.size with h' | h'
      · exact h'
      · simp [Array.getElem?_eq_none h'] at hk
    simp [hlt]
  have keepks : ∀ (listed : Array Bool) (i : Nat), (∀ k' ∈ ks, listed.getD k' true = true) → listed.getD i true = false → ∀ k' ∈ ks, (listed.setIfInBounds i true).getD k' true = true := fun listed i hks hi k' hm => by
    rw [getD_set_ne true (fun e => by subst e; rw [hks _ hm] at hi; cases hi)]; exact hks k' hm
  have atA : ∀ (f : Nat) (listed : Array Bool) (a : Act) (w : World), Fr w → (∀ k' ∈ ks, listed.getD k' true = true) → listed.getD k true = false → headE P md ops W n L f (listed.setIfInBounds k true) a →
      wpOp P ops Q' k (wpAny P md ops Q' (f + g) (listed.setIfInBounds k true)) (φ a) w := fun f listed a w hw hks hk h => by
    unfold wpOp
    rw [hA]
    simp only [Region.wanted, hg, if_true]
    refine Or.inl ?_
    unfold Oper.wp
    rw [hrun]
    simp only [Oper.upon]
    exact hnext f _ a w hw (keepks listed k hks hk) (hlt listed hk) h
  have rA : ∀ listed : Array Bool, listed.getD k true = false → k ∈ Region.ready md ops listed := fun listed hk => mem_ready.2 ⟨hk, oA, hA, fun e he => by rw [hno] at he; simp at he⟩
  induction f with
  | zero =>
    intro listed a w hw hks hk h
    rw [show 0 + g + 1 = (0 + g) + 1 by omega]
    refine ⟨fun h0 => absurd h0 (List.ne_nil_of_mem (rA listed hk)), fun i hi => ?_⟩
    by_cases hik : i = k
    · subst hik; exact atA 0 listed a w hw hks hk h
    · have hin := hdone _ _ h i (ready_mono hi hik)
      exfalso
      subst hin
      obtain ⟨oj, hoj, e, he, hb, hon⟩ := Region.waitsFor_spec hwait
      obtain ⟨_, o', ho', hall⟩ := mem_ready.1 hi
      have : o' = oj := Option.some.inj (ho'.symm.trans hoj)
      subst this
      have h2 := hall e he hb
      rw [hon, getD_both hk] at h2
      cases h2
  | succ f ih =>
    intro listed a w hw hks hk h
    rw [show f + 1 + g + 1 = (f + g + 1) + 1 by omega]
    refine ⟨fun h0 => absurd h0 (List.ne_nil_of_mem (rA listed hk)), fun i hi => ?_⟩
    by_cases hik : i = k
    · subst hik
      have := atA (f + 1) listed a w hw hks hk h
      rwa [show f + 1 + g = f + g + 1 by omega] at this
    · obtain ⟨hin, he⟩ := h.2 i (ready_mono hi hik)
      obtain ⟨hun, o, ho, _⟩ := mem_ready.1 hi
      have hnks : i ∉ ks := fun hm => by rw [hks i hm] at hun; cases hun
      have hk' : (listed.setIfInBounds i true).getD k true = false := by rw [getD_set_ne true hik]; exact hk
      have step : ∀ a' w', Fr w' → headE P md ops W n L f ((listed.setIfInBounds k true).setIfInBounds i true) a' → wpAny P md ops Q' (f + g + 1) (listed.setIfInBounds i true) (φ a') w' := fun a' w' hw' hK =>
        ih _ a' w' hw' (keepks listed i hks hun) hk' (by rw [← Array.setIfInBounds_comm _ _ hik] at *; exact hK)
      exact wpOp_of_eOpH (hFW w hw) (fun o' ho' => hH i o' hin hnks hik ho') ⟨o, ho⟩ (fun a' d hK => step a' _ (hF w d hw) hK) (fun a' hK => step a' w hw hK) he
end
section
variable {P : Program} {ops : Array Oper} {md : Region.Mode} {W : World}
/-- Two allocs are still to come. -/
theorem go_two {n g k1 k2 : Nat} {oA1 oA2 : Oper} {obj1 obj2 : Obj} {Fr : World → Prop} {L : Array Bool → Act → Prop} {Q' : Exit → Act → World → Prop} (hne : k1 ≠ k2)
    (hA1 : ops[k1]? = some oA1) (hno1 : oA1.after = #[]) (hg1 : oA1.guard = none) (hrun1 : ∀ (a : Act) (w : World), (execOp a.eval oA1).run P w = .ok (.value (.pointer (some ⟨w.heap.size, 0, none⟩))) (w.alloc obj1))
    (hA2 : ops[k2]? = some oA2) (hg2 : oA2.guard = none) (hrun2 : ∀ (a : Act) (w : World), (execOp a.eval oA2).run P w = .ok (.value (.pointer (some ⟨w.heap.size, 0, none⟩))) (w.alloc obj2))
    (hwait : Region.waitsFor md ops n k1 = true)
    (hdone : ∀ listed a, L listed a → ∀ j ∈ Region.ready md ops listed, j = n)
    (hF : ∀ w d, Fr w → Fr (Go.Proofs.YtmmfkleplbofgaaGreatDoor.bw w d)) (hFW : ∀ w, Fr w → ∃ d, w = Go.Proofs.YtmmfkleplbofgaaGreatDoor.bw W d)
    (hnext1 : ∀ (f : Nat) (listed : Array Bool) (a : Act) (w : World), Fr w → listed.getD k1 true = true → listed.getD k2 true = false → headE P md ops W n L f (listed.setIfInBounds k2 true) a →
      wpAny P md ops Q' (f + g + 1) listed (a.put oA1.dst (.pointer (some ⟨w.heap.size, 0, none⟩))) (w.alloc obj1))
    (hnext2 : ∀ (f : Nat) (listed : Array Bool) (a : Act) (w : World), Fr w → listed.getD k2 true = true → listed.getD k1 true = false → headE P md ops W n L f (listed.setIfInBounds k1 true) a →
      wpAny P md ops Q' (f + g + 1) listed (a.put oA2.dst (.pointer (some ⟨w.heap.size, 0, none⟩))) (w.alloc obj2)) :
    ∀ (f : Nat) (listed : Array Bool) (a : Act) (w : World), Fr w → listed.getD k1 true = false → listed.getD k2 true = false → headE P md ops W n L f ((listed.setIfInBounds k1 true).setIfInBounds k2 true) a →
      wpAny P md ops Q' (f + g + 2) listed a w := by
  intro f
  have hlt : ∀ (listed : Array Bool) (k : Nat), listed.getD k true = false → (listed.setIfInBounds k true).getD k true = true := fun listed k hk => by
    have hlt : k < listed.size := by
      rcases Nat.lt_or_ge k listed.size with h' | h'
      · exact h'
      · simp [Array.getElem?_eq_none h'] at hk
    simp [hlt]
  have at1 : ∀ (f : Nat) (listed : Array Bool) (a : Act) (w : World), Fr w → listed.getD k1 true = false → listed.getD k2 true = false → headE P md ops W n L f ((listed.setIfInBounds k1 true).setIfInBounds k2 true) a →
      wpOp P ops Q' k1 (wpAny P md ops Q' (f + g + 1) (listed.setIfInBounds k1 true)) a w := fun f listed a w hw h1 h2 h => by
    unfold wpOp
    rw [hA1]
    simp only [Region.wanted, hg1, if_true]
    refine Or.inl ?_
    unfold Oper.wp
    rw [hrun1]
    simp only [Oper.upon]
    exact hnext1 f _ a w hw (hlt _ _ h1) (by rw [getD_set_ne true hne]; exact h2) h
  have at2 : ∀ (f : Nat) (listed : Array Bool) (a : Act) (w : World), Fr w → listed.getD k1 true = false → listed.getD k2 true = false → headE P md ops W n L f ((listed.setIfInBounds k1 true).setIfInBounds k2 true) a →
      wpOp P ops Q' k2 (wpAny P md ops Q' (f + g + 1) (listed.setIfInBounds k2 true)) a w := fun f listed a w hw h1 h2 h => by
    unfold wpOp
    rw [hA2]
    simp only [Region.wanted, hg2, if_true]
    refine Or.inl ?_
    unfold Oper.wp
    rw [hrun2]
    simp only [Oper.upon]
    refine hnext2 f _ a w hw (hlt _ _ h2) (by rw [getD_set_ne true (Ne.symm hne)]; exact h1) ?_
    rw [Array.setIfInBounds_comm _ _ (Ne.symm hne)]
    exact h
  have rA : ∀ listed : Array Bool, listed.getD k1 true = false → k1 ∈ Region.ready md ops listed := fun listed hk => mem_ready.2 ⟨hk, oA1, hA1, fun e he => by rw [hno1] at he; simp at he⟩
  induction f with
  | zero =>
    intro listed a w hw h1 h2 h
    rw [show 0 + g + 2 = (0 + g + 1) + 1 by omega]
    refine ⟨fun h0 => absurd h0 (List.ne_nil_of_mem (rA listed h1)), fun i hi => ?_⟩
    by_cases hi1 : i = k1
    · subst hi1; exact at1 0 listed a w hw h1 h2 h
    · by_cases hi2 : i = k2
      · subst hi2; exact at2 0 listed a w hw h1 h2 h
      · have hin := hdone _ _ h i (ready_mono (ready_mono hi hi1) hi2)
        exfalso
        subst hin
        obtain ⟨oj, hoj, e, he, hb, hon⟩ := Region.waitsFor_spec hwait
        obtain ⟨_, o', ho', hall⟩ := mem_ready.1 hi
        have : o' = oj := Option.some.inj (ho'.symm.trans hoj)
        subst this
        have h3 := hall e he hb
        rw [hon, getD_both h1] at h3
        cases h3
  | succ f ih =>
    intro listed a w hw h1 h2 h
    rw [show f + 1 + g + 2 = (f + 1 + g + 1) + 1 by omega]
    refine ⟨fun h0 => absurd h0 (List.ne_nil_of_mem (rA listed h1)), fun i hi => ?_⟩
    by_cases hi1 : i = k1
    · subst hi1; exact at1 (f + 1) listed a w hw h1 h2 h
    · by_cases hi2 : i = k2
      · subst hi2; exact at2 (f + 1) listed a w hw h1 h2 h
      · obtain ⟨hin, he⟩ := h.2 i (ready_mono (ready_mono hi hi1) hi2)
        obtain ⟨hun, o, ho, _⟩ := mem_ready.1 hi
        rw [show f + 1 + g + 1 = f + g + 2 by omega]
        have step : ∀ a' w', Fr w' → headE P md ops W n L f (((listed.setIfInBounds k1 true).setIfInBounds k2 true).setIfInBounds i true) a' → wpAny P md ops Q' (f + g + 2) (listed.setIfInBounds i true) a' w' := fun a' w' hw' hK =>
          ih _ a' w' hw' (by rw [getD_set_ne true hi1]; exact h1) (by rw [getD_set_ne true hi2]; exact h2) (by
            rw [Array.setIfInBounds_comm _ _ (Ne.symm hi2), Array.setIfInBounds_comm _ _ (Ne.symm hi1)] at hK
            exact hK)
        exact wpOp_of_eOpH (φ := fun a => a) (hFW w hw) (fun o' _ => Harmless.id ops o') ⟨o, ho⟩ (fun a' d hK => step a' _ (hF w d hw) hK) (fun a' hK => step a' w hw hK) he

def lexA2 (md : Region.Mode) (ops : Array Oper) (g kA kB : Nat) : Nat → Nat → Array Bool → Bool
  | 0, k, listed => Region.seqB md ops g k listed
  | f + 1, k, listed => if k = kA ∨ k = kB then lexA2 md ops g kA kB f (k + 1) listed else (Region.ready md ops listed).contains k && Region.free md ops listed k && lexA2 md ops g kA kB f (k + 1) (listed.setIfInBounds k true)
def skipL2 (kA kB : Nat) : Nat → List Oper → List Oper
  | _, [] => []
  | k, o :: l => if k = kA ∨ k = kB then skipL2 kA kB (k + 1) l else o :: skipL2 kA kB (k + 1) l
theorem headE_lex2 {n g kA kB : Nat} {Lq : Act → Prop} (hsel : Region.noSelect ops = true) (hs : Region.sinkB md ops n = true) (hc : Region.chainB md ops n = true) (hn : n < ops.size) :
    ∀ (l : List Oper) (k : Nat) (listed : Array Bool) (a : Act), (∀ j, j < l.length → l[j]? = ops[k + j]?) → k + l.length = n → HeadInv md ops n listed →
    lexA2 md ops g kA kB l.length k listed = true → wpExt P ops W Lq (skipL2 kA kB k l) a →
    headE P md ops W n (fun listed' a' => Region.seqB md ops g n listed' = true ∧ Lq a') (skipL2 kA kB k l).length listed a
  | [], k, listed, a, _, hk, _, hB, h => by
    obtain rfl : k = n := by simpa using hk
    exact ⟨by simpa [lexA2] using hB, h⟩
  | o :: l, k, listed, a, hl, hk, inv, hB, h => by
    have h0 : ops[k]? = some o := by simpa using (hl 0 (by simp)).symm
    simp only [List.length_cons] at hk
    have hrest : ∀ j, j < l.length → l[j]? = ops[k + 1 + j]? := fun j hj => by have := hl (j + 1) (by simp; omega); simpa [Nat.add_assoc, Nat.add_comm 1 j] using this
    by_cases hkA : k = kA ∨ k = kB
    · simp only [List.length_cons, lexA2, hkA, if_true] at hB
      simp only [skipL2, hkA, if_true] at h ⊢
      exact headE_lex2 hsel hs hc hn l (k + 1) listed a hrest (by omega) inv hB h
    · simp only [List.length_cons, lexA2, hkA, if_false, Bool.and_eq_true] at hB
      simp only [skipL2, hkA, if_false] at h ⊢
      obtain ⟨⟨hr, hf⟩, hB'⟩ := hB
      have hkn : k < n := by omega
      have hr' : k ∈ Region.ready md ops listed := by simpa using hr
      have hst : eOp P ops W k (wpExt P ops W Lq (skipL2 kA kB (k + 1) l)) a := by rw [eOp_some h0]; exact h
      obtain ⟨v, hy, hK⟩ := yieldsE_of h0 hst
      exact headE_first h0 (Region.noSelect_spec hsel) hs hc hn hkn (fun listed' a' hL => seqB_ready hL.1) _ listed a inv (Region.free_spec h0 hf) hr' hy
        (headE_lex2 hsel hs hc hn l (k + 1) _ _ hrest (by omega) (inv.set hr' hkn) hB' hK)

def apartB2 (ops : Array Oper) (n kA kB : Nat) (oA : Oper) : Bool := (List.range n).all fun j => j == kA || j == kB || match ops[j]? with | some o => oA.apart ops o | none => true
def allocB2 (md : Region.Mode) (ops : Array Oper) (n k1 k2 : Nat) : Bool :=
  match ops[k1]?, ops[k2]? with
  | some oA, some oB => Region.noSelect ops && decide (n < ops.size) && decide (k1 < n) && decide (k2 < n) && decide (k1 ≠ k2) && Region.sinkB md ops n && Region.chainB md ops n && Region.waitsFor md ops n k1 && Region.waitsFor md ops n k2 &&
    apartB2 ops n k1 k2 oA && apartB2 ops n k1 k2 oB && oA.after.isEmpty && oA.guard.isNone && oB.after.isEmpty && oB.guard.isNone &&
    decide ((skipL2 k1 k2 0 (ops.toList.take n)).length + 2 = n) && lexA2 md ops (ops.size - n) k1 k2 n 0 (((Array.replicate ops.size false).setIfInBounds k1 true).setIfInBounds k2 true)
  | _, _ => false

/-- A region that draws its order, with two allocs (numbers k1, k2): either may come first. -/
theorem region_bw_alloc2 {id : Nat} {Q : Exit → Act → World → Prop} {a : Act} {w : World} {l : List Oper} (n k1 k2 : Nat) (oA oB : Oper) (obj1 obj2 : Obj) (hm : P.follows .mixedOrders = true) (hB : allocB2 .any l.toArray n k1 k2 = true)
    (hA1 : l[k1]? = some oA) (hA2 : l[k2]? = some oB) (hrun1 : ∀ (a : Act) (w : World), (execOp a.eval oA).run P w = .ok (.value (.pointer (some ⟨w.heap.size, 0, none⟩))) (w.alloc obj1))
    (hrun2 : ∀ (a : Act) (w : World), (execOp a.eval oB).run P w = .ok (.value (.pointer (some ⟨w.heap.size, 0, none⟩))) (w.alloc obj2))
    (h : wpExt P l.toArray w (fun a' =>
      (∀ d1 d2 d3, wpList P l.toArray Q (l.drop n) ((a'.put oA.dst (.pointer (some ⟨(Go.Proofs.YtmmfkleplbofgaaGreatDoor.bw w d1).heap.size, 0, none⟩))).put oB.dst (.pointer (some ⟨(Go.Proofs.YtmmfkleplbofgaaGreatDoor.bw ((Go.Proofs.YtmmfkleplbofgaaGreatDoor.bw w d1).alloc obj1) d2).heap.size, 0, none⟩)))
        (Go.Proofs.YtmmfkleplbofgaaGreatDoor.bw ((Go.Proofs.YtmmfkleplbofgaaGreatDoor.bw ((Go.Proofs.YtmmfkleplbofgaaGreatDoor.bw w d1).alloc obj1) d2).alloc obj2) d3)) ∧
      (∀ d1 d2 d3, wpList P l.toArray Q (l.drop n) ((a'.put oB.dst (.pointer (some ⟨(Go.Proofs.YtmmfkleplbofgaaGreatDoor.bw w d1).heap.size, 0, none⟩))).put oA.dst (.pointer (some ⟨(Go.Proofs.YtmmfkleplbofgaaGreatDoor.bw ((Go.Proofs.YtmmfkleplbofgaaGreatDoor.bw w d1).alloc obj2) d2).heap.size, 0, none⟩)))
        (Go.Proofs.YtmmfkleplbofgaaGreatDoor.bw ((Go.Proofs.YtmmfkleplbofgaaGreatDoor.bw ((Go.Proofs.YtmmfkleplbofgaaGreatDoor.bw w d1).alloc obj2) d2).alloc obj1) d3))) (skipL2 k1 k2 0 (l.take n)) a) : (Code.region id l.toArray true).wp P Q a w := by
  have hA1' : l.toArray[k1]? = some oA := by simpa using hA1
  have hA2' : l.toArray[k2]? = some oB := by simpa using hA2
  unfold allocB2 at hB
  rw [hA1', hA2'] at hB
  simp only [Bool.and_eq_true, decide_eq_true_eq, Array.isEmpty_iff, Option.isNone_iff_eq_none] at hB
  obtain ⟨⟨⟨⟨⟨⟨⟨⟨⟨⟨⟨⟨⟨⟨⟨⟨hsel, hn⟩, hk1⟩, hk2⟩, hne⟩, hs⟩, hc⟩, hw1⟩, hw2⟩, hap1⟩, hap2⟩, hno1⟩, hg1⟩, hno2⟩, hg2⟩, hlen⟩, hlex⟩ := hB
  have hn' : n < l.length := by simpa using hn
  have htl : (l.take n).length = n := by simp; omega
  have hdl : (l.drop n).length = l.toArray.size - n := by simp
  have inv0 : HeadInv .any l.toArray n (((Array.replicate l.toArray.size false).setIfInBounds k1 true).setIfInBounds k2 true) := by
    refine ⟨by simp, fun j oj hj hl => ?_, fun t ht htl' => ?_⟩
    · by_cases hj2 : k2 = j
      · subst hj2
        have : oj = oB := Option.some.inj (hj.symm.trans hA2')
        subst this
        intro e he; rw [hno2] at he; simp at he
      · by_cases hj1 : k1 = j
        · subst hj1
          have : oj = oA := Option.some.inj (hj.symm.trans hA1')
          subst this
          intro e he; rw [hno1] at he; simp at he
        · rw [getD_set_ne false hj2, getD_set_ne false hj1, getD_replicate_false] at hl; cases hl
    · rw [getD_set_ne true (by omega), getD_set_ne true (by omega)]
      exact getD_in (by simpa using htl') (getD_replicate_false _ _)
  have H := headE_lex2 (md := .any) (g := l.toArray.size - n) (kA := k1) (kB := k2) hsel hs hc hn (l.take n) 0 _ a (fun j hj => by
    have hj' : j < n := by rw [htl] at hj; exact hj
    simp [hj']) (by simpa using htl) inv0 (by rw [htl]; exact hlex) h
  have harm : ∀ (oX : Oper) (φ : Act → Act) (u : Value), apartB2 l.toArray n k1 k2 oX = true → (∀ j o, j < n → j ≠ k1 → j ≠ k2 → l.toArray[j]? = some o → Harmless l.toArray o φ) →
      ∀ j o, j < n → j ≠ k1 → j ≠ k2 → l.toArray[j]? = some o → Harmless l.toArray o (fun a => (φ a).put oX.dst u) := fun oX φ u hap hφ j o hj n1 n2 ho => by
    have h1 := List.all_eq_true.1 hap j (List.mem_range.2 hj)
    simp only [Bool.or_eq_true, beq_iff_eq, n1, n2, false_or, ho] at h1
    exact (hφ j o hj n1 n2 ho).put h1 (fun cs b => Region.noSelect_spec hsel j o cs b ho) u
  have hid : ∀ j o, j < n → j ≠ k1 → j ≠ k2 → l.toArray[j]? = some o → Harmless l.toArray o (fun a => a) := fun _ _ _ _ _ _ => Harmless.id _ _
  have hdone : ∀ (Lq : Act → Prop) (listed : Array Bool) (a' : Act), (Region.seqB .any l.toArray (l.toArray.size - n) n listed = true ∧ Lq a') → ∀ j ∈ Region.ready .any l.toArray listed, j = n := fun Lq listed a' hL => by
    obtain ⟨g', hg'⟩ : ∃ g', l.toArray.size - n = g' + 1 := ⟨l.toArray.size - n - 1, by omega⟩
    intro j hj
    have hL1 := hL.1
    rw [hg'] at hL1
    simp only [Region.seqB, Bool.and_eq_true, decide_eq_true_eq] at hL1
    rw [hL1.1] at hj
    simpa using hj
  have tail : ∀ (listed : Array Bool) (a'' : Act) (w' : World), Region.seqB .any l.toArray (l.toArray.size - n) n listed = true → wpList P l.toArray Q (l.drop n) a'' w' → wpAny P .any l.toArray Q (l.toArray.size - n) listed a'' w' := fun listed a'' w' hs' hl' => by
    have := wpAny_of_seq (md := .any) (Q' := Q) (ops := l.toArray) (l.drop n) n listed a'' w' (fun j => by simp [List.getElem?_drop]) (by rw [hdl]; exact hs') hl'
    rwa [hdl] at this
  refine wp_region_any hm ?_
  have := go_two (Q' := Q) (md := .any) (g := l.toArray.size - n) (Fr := fun w' => ∃ d, w' = Go.Proofs.YtmmfkleplbofgaaGreatDoor.bw w d) hne hA1' hno1 hg1 hrun1 hA2' hg2 hrun2 hw1 (hdone _)
    (fun w' d hw' => by obtain ⟨e, rfl⟩ := hw'; exact ⟨_, bw_bw w e d⟩) (fun w' hw' => hw')
    (fun f listed a' w' hw' hl1 hl2 hE => by
      obtain ⟨d1, rfl⟩ := hw'
      exact go_one (φ := fun a => a.put oA.dst (.pointer (some ⟨(Go.Proofs.YtmmfkleplbofgaaGreatDoor.bw w d1).heap.size, 0, none⟩))) (Fr := fun w' => ∃ d, w' = Go.Proofs.YtmmfkleplbofgaaGreatDoor.bw ((Go.Proofs.YtmmfkleplbofgaaGreatDoor.bw w d1).alloc obj1) d) [k1]
        (fun j o hj hks hk ho => harm oA _ _ hap1 hid j o hj (by simpa using hks) hk ho) hA2' hno2 hg2 hrun2 hw2 (hdone _)
        (fun w' d hw' => by obtain ⟨e, rfl⟩ := hw'; exact ⟨_, bw_bw _ e d⟩) (fun w' hw' => by obtain ⟨e, rfl⟩ := hw'; exact bw_of (below_bw ((bw_below w d1).alloc (bw_le w d1) _) (le_al (bw_le w d1))))
        (fun f listed a' w' hw' hks hk hE => by
          obtain ⟨d2, rfl⟩ := hw'
          exact go_none (φ := fun a => (a.put oA.dst (.pointer (some ⟨(Go.Proofs.YtmmfkleplbofgaaGreatDoor.bw w d1).heap.size, 0, none⟩))).put oB.dst (.pointer (some ⟨(Go.Proofs.YtmmfkleplbofgaaGreatDoor.bw ((Go.Proofs.YtmmfkleplbofgaaGreatDoor.bw w d1).alloc obj1) d2).heap.size, 0, none⟩)))
            (Fr := fun w' => ∃ d, w' = Go.Proofs.YtmmfkleplbofgaaGreatDoor.bw ((Go.Proofs.YtmmfkleplbofgaaGreatDoor.bw ((Go.Proofs.YtmmfkleplbofgaaGreatDoor.bw w d1).alloc obj1) d2).alloc obj2) d) [k1, k2]
            (fun j o hj hks ho => harm oB _ _ hap2 (harm oA _ _ hap1 hid) j o hj (fun e => hks (by simp [e])) (fun e => hks (by simp [e])) ho)
            (fun w' d hw' => by obtain ⟨e, rfl⟩ := hw'; exact ⟨_, bw_bw _ e d⟩)
            (fun w' hw' => by obtain ⟨e, rfl⟩ := hw'; exact bw_of (below_bw ((below_bw ((bw_below w d1).alloc (bw_le w d1) _) (le_al (bw_le w d1))).alloc (le_bw (le_al (bw_le w d1))) _) (le_al (le_bw (le_al (bw_le w d1))))))
            (fun listed a'' w' hw' hL => by obtain ⟨d3, rfl⟩ := hw'; exact tail _ _ _ hL.1 (hL.2.1 d1 d2 d3)) f listed a' _ ⟨⟨#[], _⟩, by simp [Go.Proofs.YtmmfkleplbofgaaGreatDoor.bw, World.alloc]; rfl⟩ (by simp only [List.mem_cons, List.not_mem_nil, or_false]; rintro k (rfl | rfl); exact hks _ (by simp); exact hk) hE)
        f listed a' _ ⟨⟨#[], _⟩, by simp [Go.Proofs.YtmmfkleplbofgaaGreatDoor.bw, World.alloc]; rfl⟩ (by simp only [List.mem_cons, List.not_mem_nil, or_false]; rintro k rfl; exact hl1) hl2 hE)
    (fun f listed a' w' hw' hl2 hl1 hE => by
      obtain ⟨d1, rfl⟩ := hw'
      exact go_one (φ := fun a => a.put oB.dst (.pointer (some ⟨(Go.Proofs.YtmmfkleplbofgaaGreatDoor.bw w d1).heap.size, 0, none⟩))) (Fr := fun w' => ∃ d, w' = Go.Proofs.YtmmfkleplbofgaaGreatDoor.bw ((Go.Proofs.YtmmfkleplbofgaaGreatDoor.bw w d1).alloc obj2) d) [k2]
        (fun j o hj hks hk ho => harm oB _ _ hap2 hid j o hj hk (by simpa using hks) ho) hA1' hno1 hg1 hrun1 hw1 (hdone _)
        (fun w' d hw' => by obtain ⟨e, rfl⟩ := hw'; exact ⟨_, bw_bw _ e d⟩) (fun w' hw' => by obtain ⟨e, rfl⟩ := hw'; exact bw_of (below_bw ((bw_below w d1).alloc (bw_le w d1) _) (le_al (bw_le w d1))))
        (fun f listed a' w' hw' hks hk hE => by
          obtain ⟨d2, rfl⟩ := hw'
          exact go_none (φ := fun a => (a.put oB.dst (.pointer (some ⟨(Go.Proofs.YtmmfkleplbofgaaGreatDoor.bw w d1).heap.size, 0, none⟩))).put oA.dst (.pointer (some ⟨(Go.Proofs.YtmmfkleplbofgaaGreatDoor.bw ((Go.Proofs.YtmmfkleplbofgaaGreatDoor.bw w d1).alloc obj2) d2).heap.size, 0, none⟩)))
            (Fr := fun w' => ∃ d, w' = Go.Proofs.YtmmfkleplbofgaaGreatDoor.bw ((Go.Proofs.YtmmfkleplbofgaaGreatDoor.bw ((Go.Proofs.YtmmfkleplbofgaaGreatDoor.bw w d1).alloc obj2) d2).alloc obj1) d) [k1, k2]
            (fun j o hj hks ho => harm oA _ _ hap1 (harm oB _ _ hap2 hid) j o hj (fun e => hks (by simp [e])) (fun e => hks (by simp [e])) ho)
            (fun w' d hw' => by obtain ⟨e, rfl⟩ := hw'; exact ⟨_, bw_bw _ e d⟩)
            (fun w' hw' => by obtain ⟨e, rfl⟩ := hw'; exact bw_of (below_bw ((below_bw ((bw_below w d1).alloc (bw_le w d1) _) (le_al (bw_le w d1))).alloc (le_bw (le_al (bw_le w d1))) _) (le_al (le_bw (le_al (bw_le w d1))))))
            (fun listed a'' w' hw' hL => by obtain ⟨d3, rfl⟩ := hw'; exact tail _ _ _ hL.1 (hL.2.2 d1 d2 d3)) f listed a' _ ⟨⟨#[], _⟩, by simp [Go.Proofs.YtmmfkleplbofgaaGreatDoor.bw, World.alloc]; rfl⟩ (by simp only [List.mem_cons, List.not_mem_nil, or_false]; rintro k (rfl | rfl); exact hk; exact hks _ (by simp)) hE)
        f listed a' _ ⟨⟨#[], _⟩, by simp [Go.Proofs.YtmmfkleplbofgaaGreatDoor.bw, World.alloc]; rfl⟩ (by simp only [List.mem_cons, List.not_mem_nil, or_false]; rintro k rfl; exact hl2) hl1 hE)
    _ (Array.replicate l.toArray.size false) a { w with drawn := w.drawn + 1 } ⟨_, bw_drewExt w⟩ (by simp [show k1 < l.length by omega]) (by simp [show k2 < l.length by omega]) H
  rw [show (skipL2 k1 k2 0 (l.take n)).length + (l.toArray.size - n) + 2 = l.toArray.size by have : (skipL2 k1 k2 0 (l.take n)).length + 2 = n := hlen; omega] at this
  exact this
end
theorem lay_self (w : World) (L : List (Obj ⊕ Ext)) : ∃ d, lay w L = lay w (.inr d :: L) := ⟨⟨#[], (lay w L).drawn⟩, by show lay w L = bw (lay w L) _; simp [bw]⟩
end Go.Proofs.YtmmfkleplbofgaaGreatDoor
