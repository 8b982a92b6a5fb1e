/- Contracts and plain laws, several texts in one: Infra; Lay; Frame; Region; Mix; MixT; MixP; MixC; MixS; Nm0; Nm1; Plain; Div; Shelf -/
import Derived.Deep.Quiet
import Derived.Deep.QuietTactic
import Derived.StillTail
import Derived.Below
import Derived.Laws.NewBlocks
import Derived.Attr
import Derived.OwnWalk
import Derived.Test.YtakcfcekdngndaaRows
import Derived.WalkKit
import Derived.ProofKit
import Derived.Lib.SmallJoins
import Derived.OpenShut
import Derived.Deep.AppendLies
import Derived.Test.YtakcfcekdngndaaProg
import Derived.WalkSpells
import Derived.WalkLawsBesides
import Derived.Lib.Hide
import Derived.BigQuiet
import Derived.Shelf.Spec.BitsCarry
import Derived.Shelf.Small.Bits
import Derived.Shelf.Small.Wraps
import Derived.Shelf.Strconv.Itoa0
import Derived.Shelf.Bits.Mul64
import Derived.Ground.Names2Prog
import Derived.Shelf.Slices.SearchI
/- Lemmas on worlds that only grow: 'bw w d' is some world that holds all blocks of w as they were. Regions that draw their order, in the class of such worlds; with a tail (a store) behind them. No program in sight. -/
namespace Go.Proofs.Ytakcfcekdngndaa
open Go.RowKit

/-- What has come behind w's blocks, and the count of draws. -/
structure Ext where
  blocks : Array Obj
  drawn : Nat
instance : Nonempty Ext := ⟨⟨#[], 0⟩⟩
/-- A world that has all of w's blocks as they were. -/
def bw (w : World) (d : Ext) : World := { w with heap := w.heap ++ d.blocks, drawn := d.drawn }

theorem bw_of {w w' : World} (h : Below w.heap.size w w') : ∃ d, w' = bw w d := by
  refine ⟨⟨w'.heap.extract w.heap.size w'.heap.size, w'.drawn⟩, ?_⟩
  obtain ⟨heap, tape, drawn, os, output⟩ := w'
  obtain ⟨h1, h2, h3, h4, h5⟩ := h
  simp only at h1 h2 h3 h4 h5
  subst h1 h2 h3
  simp only [bw]
  congr 1
  apply Array.ext_getElem?
  intro i
  rw [Array.getElem?_append]
  split
  · rename_i hi; rw [← h5 i hi]
  · rename_i hi
    simp only [Array.getElem?_extract]
    by_cases hh : i < heap.size
    · rw [if_pos (by omega)]; congr 1; omega
    · rw [if_neg (by omega)]; exact Array.getElem?_eq_none (by omega)
theorem bw_le (w : World) (d : Ext) : w.heap.size ≤ (bw w d).heap.size := by simp [bw]
theorem bw_get (w : World) (d : Ext) (k : Nat) (h : k < w.heap.size) : (bw w d).heap[k]? = w.heap[k]? := by simp only [bw, Array.getElem?_append, h, if_true]
theorem bw_below (w : World) (d : Ext) : Below w.heap.size w (bw w d) := ⟨rfl, rfl, rfl, bw_le w d, fun k hk => bw_get w d k hk⟩

@[go_sem] theorem bw_cell (w : World) (d : Ext) (b i : Nat) (h : b < w.heap.size) : (bw w d).cell? ⟨b, i, none⟩ = w.cell? ⟨b, i, none⟩ := (bw_below w d).cell (p := ⟨b, i, none⟩) h
@[go_sem] theorem bw_frozen (w : World) (d : Ext) (b i : Nat) (h : b < w.heap.size) : (bw w d).frozen? ⟨b, i, none⟩ = w.frozen? ⟨b, i, none⟩ := (bw_below w d).frozen (p := ⟨b, i, none⟩) h
@[go_sem] theorem bw_shape (w : World) (d : Ext) (r : Nat) (h : r < w.heap.size) : (bw w d).shape? r = w.shape? r := by
  unfold World.shape?; rw [(bw_below w d).block r h]
@[go_sem] theorem bw_block (w : World) (d : Ext) (r : Nat) (h : r < w.heap.size) : (bw w d).heap[r]? = w.heap[r]? := (bw_below w d).block r h
@[go_sem] theorem lt_bw (w : World) (d : Ext) (b : Nat) (h : b < w.heap.size) : (b < (bw w d).heap.size) = True := eq_true (Nat.lt_of_lt_of_le h (bw_le w d))
@[go_sem] theorem le_bw_s (w : World) (d : Ext) (b : Nat) (h : b ≤ w.heap.size) : (b ≤ (bw w d).heap.size) = True := eq_true (Nat.le_trans h (bw_le w d))
@[go_sem] theorem le_bw_t (w : World) (d : Ext) (b : Nat) (h : b < w.heap.size) : (b ≤ (bw w d).heap.size) = True := eq_true (Nat.le_trans (Nat.le_of_lt h) (bw_le w d))
@[go_sem] theorem le_plus (n b k : Nat) (h : b ≤ n) : (b ≤ n + k) = True := eq_true (by omega)
@[go_sem] theorem lt_plus (n b k : Nat) (h : b < n) : (b < n + k) = True := eq_true (by omega)

@[go_sem] theorem bw_setCell (w : World) (d : Ext) (b i : Nat) (v : Value) (h : b < w.heap.size) : (bw w d).setCell ⟨b, i, none⟩ v = bw (w.setCell ⟨b, i, none⟩ v) d := by
  simp only [bw, World.setCell]
  congr 1
  apply Array.ext_getElem?
  intro k
  simp only [Array.getElem?_modify, Array.getElem?_append, Array.size_modify]
  by_cases hk : b = k
  · subst hk; simp [h]
  · simp [hk]
/-- A draw behind such a world is such a world. -/
@[go_sem] theorem bw_drew (w : World) (d : Ext) : (bw w d).drew = bw w ⟨d.blocks, d.drawn + 1⟩ := rfl
@[go_sem] theorem bw_bw (w : World) (d e : Ext) : bw (bw w d) e = bw w ⟨d.blocks ++ e.blocks, e.drawn⟩ := by simp [bw, Array.append_assoc]
theorem bw_drewExt (w : World) : w.drew = bw w ⟨#[], w.drawn + 1⟩ := by
  show ({ w with drawn := w.drawn + 1 } : World) = { w with heap := w.heap ++ #[], drawn := w.drawn + 1 }
  rw [Array.append_empty]

theorem le_bw {B : Nat} {w : World} {d : Ext} (h : B ≤ w.heap.size) : B ≤ (bw w d).heap.size := Nat.le_trans h (bw_le w d)
theorem le_al {B : Nat} {w : World} {o : Obj} (h : B ≤ w.heap.size) : B ≤ (w.alloc o).heap.size := by simp; omega
theorem le_set {B : Nat} {w : World} {a : Addr} {v : Value} (h : B ≤ w.heap.size) : B ≤ (w.setCell a v).heap.size := by simp; omega
theorem le_drew {B : Nat} {w : World} (h : B ≤ w.heap.size) : B ≤ w.drew.heap.size := h
theorem le_succ' {a b k : Nat} (h : a ≤ b) : a ≤ b + k := by omega
theorem ret_int {k : IntKind} {a b : Int} (h : a = b) : Ending.returned (.int k a) = .returned (.int k b) := by rw [h]
theorem ret_bool {a b : Bool} (h : a = b) : Ending.returned (.bool a) = .returned (.bool b) := by rw [h]
theorem ret_val {a b : Value} (h : a = b) : Ending.returned a = .returned b := by rw [h]
theorem agg2 {a b c d : Int} (h1 : a = c) (h2 : b = d) : (Value.agg #[.int .i64 a, .int .i64 b]) = .agg #[.int .i64 c, .int .i64 d] := by rw [h1, h2]
theorem below_bw {B : Nat} {a w : World} {d : Ext} (h : Below B a w) (hB : B ≤ w.heap.size) : Below B a (bw w d) := h.trans ((bw_below w d).mono hB)

/-- What a callee that leaves the world alone, or only makes memory, is in the class of such worlds. -/
theorem bq_same {P : Program} {f : FuncId} {args : Array Value} {w : World} {d : Ext} {v : Value}
    (h : Calls P f args (bw w d) fun e w' => e = .returned v ∧ w' = bw w d) : Calls P f args (bw w d) fun e w' => e = .returned v ∧ ∃ d, w' = bw w d :=
  h.mono fun _ _ ⟨he, hw⟩ => ⟨he, d, hw⟩
theorem bq_of {P : Program} {f : FuncId} {args : Array Value} {w : World} {d : Ext} {v : Value}
    (h : Calls P f args (bw w d) fun e w' => e = .returned v ∧ ∃ e', w' = bw (bw w d) e') : Calls P f args (bw w d) fun e w' => e = .returned v ∧ ∃ d, w' = bw w d :=
  h.mono fun _ _ ⟨he, e', hw⟩ => ⟨he, _, hw.trans (bw_bw w d e')⟩

section
variable {P : Program} {ops : Array Oper} {md : Region.Mode} {C : World → Prop}

/-- A region that draws its order, in the class. -/
theorem region_bw {id : Nat} {Q : Exit → Act → World → Prop} {a : Act} {w : World} {l : List Oper} (hm : P.follows .mixedOrders = true) (hB : Region.lexB .any l.toArray = true)
    (h : wpQuiet P l.toArray (fun w' => ∃ d, w' = bw w d) (fun a' => ∀ w', (∃ d, w' = bw w d) → Q .normal a' w') l a) : (Code.region id l.toArray true).wp P Q a w :=
  wp_region_quiet (C := fun w' => ∃ d, w' = bw w d) hm hB ⟨_, bw_drewExt w⟩ (by simpa using h)

/-- The head of a region in whatever order; L is asked when it is through. -/
def headAny (P : Program) (md : Region.Mode) (ops : Array Oper) (C : World → Prop) (n : Nat) (L : Array Bool → Act → Prop) : Nat → Array Bool → Act → Prop
  | 0, listed, a => L listed a
  | f + 1, listed, a => Region.ready md ops listed ≠ [] ∧ ∀ i ∈ Region.ready md ops listed, i < n ∧ qOp P ops C i (headAny P md ops C n L f (listed.setIfInBounds i true)) a

theorem any_of_head {n g : Nat} {L : Array Bool → Act → Prop} {Q' : Exit → Act → World → Prop} (hL : ∀ listed a w, C w → L listed a → wpAny P md ops Q' g listed a w) :
    ∀ (f : Nat) (listed : Array Bool) (a : Act) (w : World), C w → headAny P md ops C n L f listed a → wpAny P md ops Q' (f + g) listed a w
  | 0, listed, a, w, hw, h => by rw [Nat.zero_add]; exact hL _ _ _ hw h
  | f + 1, listed, a, w, hw, h => by
    rw [show f + 1 + g = (f + g) + 1 by omega]
    exact ⟨fun h0 => absurd h0 h.1, fun i hi => wpOp_of_qOp hw (fun a' w' hw' h' => any_of_head hL f _ a' w' hw' h') (h.2 i hi).2⟩

theorem head_first {n i : Nat} {oi : Oper} {v : Value} {L : Array Bool → Act → Prop} (hi : ops[i]? = some oi) (hsel : ∀ (j : Nat) (o : Oper) cs b, ops[j]? = some o → o.op ≠ .select cs b)
    (hs : Region.sinkB md ops n = true) (hc : Region.chainB md ops n = true) (hn : n < ops.size) (hin : i < n)
    (hdone : ∀ listed a, L listed a → ∀ j ∈ Region.ready md ops listed, n ≤ j) (f : Nat) :
    ∀ (listed : Array Bool) (a : Act), HeadInv md ops n listed →
      (∀ j oj, ops[j]? = some oj → j ≠ i → listed.getD j true = false → (∀ e ∈ oj.after, Region.binds md e = true → e.on ≠ i) → oi.apart ops oj = true) →
      i ∈ Region.ready md ops listed → YieldsIn P ops C oi v a →
      headAny P md ops C n L f (listed.setIfInBounds i true) (a.put oi.dst v) → headAny P md ops C n L (f + 1) listed a := by
  induction f with
  | zero =>
    intro listed a inv _ hr hy H
    have hun := (mem_ready.1 hr).1
    have early : ∀ j ∈ Region.ready md ops listed, j < n := fun j hj =>
      Nat.lt_of_not_le fun hle => tail_waits hs hc hn inv _ i rfl hin hun j hle hj
    refine ⟨List.ne_nil_of_mem hr, fun j hj => ⟨early j hj, ?_⟩⟩
    by_cases hji : j = i
    · subst hji; exact hy.qOp hi H
    · exact absurd (hdone _ _ H j (ready_mono hj hji)) (Nat.not_le_of_lt (early j hj))
  | succ f ih =>
    intro listed a inv hfree hr hy H
    have hun := (mem_ready.1 hr).1
    have early : ∀ j ∈ Region.ready md ops listed, j < n := fun j hj =>
      Nat.lt_of_not_le fun hle => tail_waits hs hc hn inv _ i rfl hin hun j hle hj
    refine ⟨List.ne_nil_of_mem hr, fun j hj => ⟨early j hj, ?_⟩⟩
    by_cases hji : j = i
    · subst hji; exact hy.qOp hi H
    · have h1 := (H.2 j (ready_mono hj hji)).2
      obtain ⟨hjun, oj, hoj, hall⟩ := mem_ready.1 hj
      have hnot : ∀ e ∈ oj.after, Region.binds md e = true → e.on ≠ i := fun e he hb heq => by
        have h2 := hall e he hb
        rw [heq, getD_both hun] at h2
        cases h2
      have h2 := qOp_put hoj (hfree j oj hoj hji hjun hnot) (fun cs b => hsel i oi cs b hi) (fun cs b => hsel j oj cs b hoj) hy h1
      have hfree' : ∀ k ok, ops[k]? = some ok → k ≠ i → (listed.setIfInBounds j true).getD k true = false →
          (∀ e ∈ ok.after, Region.binds md e = true → e.on ≠ i) → oi.apart ops ok = true := fun k ok hk hki hu hno => by
        refine hfree k ok hk hki ?_ hno
        by_cases hjk : j = k
        · subst hjk; exact hjun
        · rw [getD_set_ne true hjk] at hu; exact hu
      refine qOp_mono (fun a' h3 => ih (listed.setIfInBounds j true) a' (inv.set hj (early j hj)) hfree' (ready_mono hr (Ne.symm hji)) h3.1 ?_) h2
      rw [Array.setIfInBounds_comm _ _ hji]
      exact h3.2

theorem head_lex {n g : Nat} {Lq : Act → Prop} (hsel : Region.noSelect ops = true) (hs : Region.sinkB md ops n = true) (hc : Region.chainB md ops n = true) (hn : n < ops.size) :
    ∀ (l : List Oper) (k : Nat) (listed : Array Bool) (a : Act), (∀ j, j < l.length → l[j]? = ops[k + j]?) → k + l.length = n → HeadInv md ops n listed →
    Region.lexHead md ops g l.length k listed = true → wpQuiet P ops C Lq l a →
    headAny P md ops C n (fun listed' a' => Region.seqB md ops g n listed' = true ∧ Lq a') l.length listed a
  | [], k, listed, a, _, hk, _, hB, h => by
    obtain rfl : k = n := by simpa using hk
    exact ⟨by simpa [Region.lexHead] using hB, h⟩
  | o :: l, k, listed, a, hl, hk, inv, hB, h => by
    have h0 : ops[k]? = some o := by simpa using (hl 0 (by simp)).symm
    simp only [List.length_cons, Region.lexHead, Bool.and_eq_true] at hB
    obtain ⟨⟨hr, hf⟩, hB'⟩ := hB
    simp only [List.length_cons] at hk
    have hkn : k < n := by omega
    have hr' : k ∈ Region.ready md ops listed := by simpa using hr
    have hst : qOp P ops C k (wpQuiet P ops C Lq l) a := by unfold qOp; simp only [h0]; exact h
    obtain ⟨v, hy, hK⟩ := yieldsIn_of_qOp h0 hst
    exact head_first h0 (Region.noSelect_spec hsel) hs hc hn hkn (fun listed' a' hL => seqB_ready hL.1) l.length listed a inv (Region.free_spec h0 hf) hr' hy
      (head_lex hsel hs hc hn l (k + 1) _ _ (fun j hj => by have := hl (j + 1) (by simp; omega); simpa [Nat.add_assoc, Nat.add_comm 1 j] using this) (by omega) (inv.set hr' hkn) hB' hK)

/-- A region that draws its order: all but the last operations are quiet in the class; the last ones follow in the text's order. -/
theorem region_bw_tail {id : Nat} {Q : Exit → Act → World → Prop} {a : Act} {w : World} {l : List Oper} (n : Nat) (hm : P.follows .mixedOrders = true) (hB : Region.lexTailB .any l.toArray n = true)
    (h : wpQuiet P l.toArray (fun w' => ∃ d, w' = bw w d) (fun a' => ∀ w', (∃ d, w' = bw w d) → wpList P l.toArray Q (l.drop n) a' w') (l.take n) a) : (Code.region id l.toArray true).wp P Q a w := by
  simp only [Region.lexTailB, Bool.and_eq_true, decide_eq_true_eq] at hB
  obtain ⟨⟨⟨⟨hsel, hn⟩, hs⟩, hc⟩, hlex⟩ := hB
  have hn' : n < l.length := by simpa using hn
  have htl : (l.take n).length = n := by simp; omega
  have hdl : (l.drop n).length = l.toArray.size - n := by simp
  have inv0 : HeadInv .any l.toArray n (Array.replicate l.toArray.size false) :=
    ⟨by simp, fun j oj _ hl => (by rw [getD_replicate_false] at hl; cases hl), fun t _ ht => getD_in (by simpa using ht) (getD_replicate_false _ _)⟩
  have H := head_lex (md := .any) (g := l.toArray.size - n) hsel hs hc hn (l.take n) 0 _ a (fun j hj => by
    have hj' : j < n := by rw [htl] at hj; exact hj
    simp [hj']) (by simpa using htl) inv0 (by rw [htl]; exact hlex) h
  refine wp_region_any hm ?_
  have := any_of_head (Q' := Q) (g := l.toArray.size - n) (fun listed a' w' hw' hL => by
    have := wpAny_of_seq (md := .any) (Q' := Q) (l.drop n) n listed a' w' (fun j => by simp [List.getElem?_drop]) (by rw [hdl]; exact hL.1) (hL.2 w' hw')
    rwa [hdl] at this) _ _ _ { w with drawn := w.drawn + 1 } ⟨_, bw_drewExt w⟩ H
  rw [htl, show n + (l.toArray.size - n) = l.toArray.size by omega] at this
  exact this
end

/-- 'append(out, x)' on a slice of the call's own, x one element that was just laid down: the row is longer by it, in some world that extends w0. -/
theorem wpList_push {P : Program} {ops : Array Oper} {rest : List Oper} {o : Oper} {a : Act} {Q : Exit → Act → World → Prop} (hgd : o.guard = none) (s x : Operand) (t : TypeId)
    (ho : o.op = .call { callee := .builtin .append, args := #[s, x], argTypes := #[t, t] })
    (e : TypeId) (i : TypeInfo) (z : Value) (size bytes : Nat) (ht : P.underlying t = some (.slice e)) (hi : P.info? e = some i) (hz : i.zero = some z)
    (hsize : i.size = size) (hby : i.bytes = bytes) (hzs : z.cells.size = size) (hsz : 0 < size)
    (w0 wb : World) (c : Array Value) (te : TypeId) (v : Value) (n : Nat) (xs : List Value) (hw : Below w0.heap.size w0 wb) (hown : wb.ownsRow w0.heap.size e size v n xs)
    (hs : a.eval s = v) (hx : a.eval x = .slice (some ⟨wb.heap.size, 0, none⟩) 1 1) (hc : c.size = size) (h1 : ∀ u ∈ c.toList, u.oneCell' = true)
    (hn : n + 1 ≤ maxLen) (hb : (n + 1) * bytes ≤ 140737488355328)
    (h : ∀ v' d, (bw w0 d).ownsRow w0.heap.size e size v' (n + 1) (xs ++ c.toList) → wpList P ops Q rest (a.put o.dst v') (bw w0 d)) :
    wpList P ops Q (o :: rest) a (wb.alloc (.cells c te)) := by
  refine wpList_append_own _ hgd s x t ho w0.heap.size e i z size bytes ht hi hz hsize hby hzs hsz v n xs hs (hown.alloc _) ⟨wb.heap.size, 0, none⟩ 1 1 c.toList hx (by simp [hc]) ?_ h1 hn hb (le_al hw.size) ?_
  · intro j u hu
    rw [Addr.add_lit, Nat.zero_add, World.cell?_alloc_new]
    simpa using hu
  · intro v' w' hown' hg _
    obtain ⟨d, hd⟩ := bw_of (w := w0) (w' := w') ((hw.alloc hw.size _).grown hg (le_al hw.size) (fun k hk => (hown.lt k hk).1))
    subst hd
    exact h v' d hown'
theorem row_nil (w : World) (base e size : Nat) : w.ownsRow base e size (.slice none 0 0) 0 [] := World.ownsRow_nil w base e size
end Go.Proofs.Ytakcfcekdngndaa
/- Worlds written out: 'lay w L' is w with the segments L behind it (the latest first): a block that was made, or whatever a callee left. Addresses are written by the sizes of what lies before them. No program in sight. -/
namespace Go.Proofs.Ytakcfcekdngndaa
open Go.RowKit

def Ext.n (d : Ext) : Nat := d.blocks.size
def lay (w : World) : List (Obj ⊕ Ext) → World
  | [] => w
  | .inl o :: L => (lay w L).alloc o
  | .inr d :: L => bw (lay w L) d
def shp : List (Obj ⊕ Ext) → List Nat
  | [] => []
  | .inl _ :: L => 1 :: shp L
  | .inr d :: L => d.n :: shp L
def posn (w : World) (p : List Nat) : Nat := w.heap.size + p.sum
/-- The object at a depth. -/
def objS : List (Obj ⊕ Ext) → Nat → Option Obj
  | .inl o :: _, 0 => some o
  | _ :: L, n + 1 => objS L n
  | _, _ => none
def cellS : List (Obj ⊕ Ext) → Nat → Nat → Option Value
  | .inl (.cells c _ _) :: _, 0, i => c[i]?
  | _ :: L, n + 1, i => cellS L n i
  | _, _, _ => none
def frozS : List (Obj ⊕ Ext) → Nat → Nat → Bool
  | .inl (.cells _ _ f) :: _, 0, i => decide (f.1 ≤ i) && decide (i < f.2)
  | _ :: L, n + 1, i => frozS L n i
  | _, _, _ => false
def updS : List (Obj ⊕ Ext) → Nat → Nat → Value → List (Obj ⊕ Ext)
  | .inl (.cells c t f) :: L, 0, i, v => .inl (.cells (c.setIfInBounds i v) t f) :: L
  | x :: L, n + 1, i, v => x :: updS L n i v
  | L, _, _, _ => L

section
variable (w : World) (o : Obj) (d : Ext) (L : List (Obj ⊕ Ext)) (x : Obj ⊕ Ext) (n i : Nat) (v : Value) (c : Array Value) (t : TypeId) (f : Nat × Nat)
@[go_sem] theorem lay_alloc : (lay w L).alloc o = lay w (.inl o :: L) := rfl
@[go_sem] theorem lay_bw : bw (lay w L) d = lay w (.inr d :: L) := rfl
@[go_sem] theorem shp_nil : shp [] = [] := rfl
@[go_sem] theorem shp_inl : shp (.inl o :: L) = 1 :: shp L := rfl
@[go_sem] theorem shp_inr : shp (.inr d :: L) = d.n :: shp L := rfl
@[go_sem] theorem objS_0 : objS (.inl o :: L) 0 = some o := rfl
@[go_sem] theorem objS_s : objS (x :: L) (n + 1) = objS L n := by cases x <;> rfl
@[go_sem] theorem cellS_0 : cellS (.inl (.cells c t f) :: L) 0 i = c[i]? := rfl
@[go_sem] theorem cellS_s : cellS (x :: L) (n + 1) i = cellS L n i := by cases x with | inl o => cases o <;> rfl | inr d => rfl
@[go_sem] theorem frozS_0 : frozS (.inl (.cells c t f) :: L) 0 i = (decide (f.1 ≤ i) && decide (i < f.2)) := rfl
@[go_sem] theorem frozS_s : frozS (x :: L) (n + 1) i = frozS L n i := by cases x with | inl o => cases o <;> rfl | inr d => rfl
@[go_sem] theorem updS_0 : updS (.inl (.cells c t f) :: L) 0 i v = .inl (.cells (c.setIfInBounds i v) t f) :: L := rfl
@[go_sem] theorem updS_s : updS (x :: L) (n + 1) i v = x :: updS L n i v := by cases x with | inl o => cases o <;> rfl | inr d => rfl
theorem shp_len : (shp L).length = L.length := by induction L with | nil => rfl | cons x L ih => cases x <;> simp [shp, ih]
@[go_sem] theorem lay_size : (lay w L).heap.size = posn w (shp L) := by
  induction L with
  | nil => simp [lay, shp, posn]
  | cons x L ih =>
    cases x with
    | inl o => simp only [lay, World.size_alloc, ih, shp, posn, List.sum_cons]; omega
    | inr d => simp only [lay, shp, posn, List.sum_cons, bw, Array.size_append, ih, Ext.n]; omega
theorem lay_extends : Below w.heap.size w (lay w L) := by
  induction L with
  | nil => exact Below.refl _ _
  | cons x L ih =>
    cases x with
    | inl o => exact ih.alloc ih.size o
    | inr d => exact below_bw ih ih.size
theorem lay_ex : ∃ d, lay w L = bw w d := bw_of (lay_extends w L)
@[go_sem] theorem lay_old (b : Nat) (h : b < w.heap.size) : (lay w L).cell? ⟨b, i, none⟩ = w.cell? ⟨b, i, none⟩ := (lay_extends w L).cell (p := ⟨b, i, none⟩) h
@[go_sem] theorem lay_oldf (b : Nat) (h : b < w.heap.size) : (lay w L).frozen? ⟨b, i, none⟩ = w.frozen? ⟨b, i, none⟩ := (lay_extends w L).frozen (p := ⟨b, i, none⟩) h
@[go_sem] theorem lay_oldb (b : Nat) (h : b < w.heap.size) : (lay w L).heap[b]? = w.heap[b]? := (lay_extends w L).block b h
@[go_sem] theorem lay_olds (b : Nat) (h : b < w.heap.size) : (lay w L).shape? b = w.shape? b := by unfold World.shape?; rw [lay_oldb w L b h]
@[go_sem] theorem lt_posn (p : List Nat) (b : Nat) (h : b < w.heap.size) : (b < posn w p) = True := eq_true (by unfold posn; omega)
@[go_sem] theorem le_posn (p : List Nat) (b : Nat) (h : b < w.heap.size) : (b ≤ posn w p) = True := eq_true (by unfold posn; omega)
@[go_sem] theorem base_le_posn (p : List Nat) : (w.heap.size ≤ posn w p) = True := eq_true (by unfold posn; omega)

end
/-- Is the segment at a depth a block of cells? -/
def isC : List (Obj ⊕ Ext) → Nat → Bool
  | .inl (.cells _ _ _) :: _, 0 => true
  | _ :: L, n + 1 => isC L n
  | _, _ => false
@[go_sem] theorem isC_0 (c : Array Value) (t : TypeId) (f : Nat × Nat) (L : List (Obj ⊕ Ext)) : isC (.inl (.cells c t f) :: L) 0 = true := rfl
@[go_sem] theorem isC_s (x : Obj ⊕ Ext) (L : List (Obj ⊕ Ext)) (n : Nat) : isC (x :: L) (n + 1) = isC L n := by cases x with | inl o => cases o <;> rfl | inr d => rfl

theorem lay_get (w : World) : ∀ (L : List (Obj ⊕ Ext)) (k : Nat) (o : Obj), objS L k = some o → (lay w L).heap[posn w ((shp L).drop (k + 1))]? = some o
  | [], k, o, h => by cases k <;> simp [objS] at h
  | .inl o' :: L, 0, o, h => by
    simp only [objS, Option.some.injEq] at h
    subst h
    simp only [shp, List.drop_succ_cons, List.drop_zero, ← lay_size]
    show ((lay w L).heap.push o')[_]? = _
    simp
  | .inr d :: L, 0, o, h => by simp [objS] at h
  | x :: L, k + 1, o, h => by
    rw [objS_s] at h
    have ih := lay_get w L k o h
    have hlt := (Array.getElem?_eq_some_iff.1 ih).1
    cases x with
    | inl o' => simp only [shp, List.drop_succ_cons]; exact (Below.heap_alloc _ _ _ hlt).trans ih
    | inr d => simp only [shp, List.drop_succ_cons]; exact (bw_get _ _ _ hlt).trans ih
theorem obj_of_isC : ∀ (L : List (Obj ⊕ Ext)) (k : Nat), isC L k = true → ∃ c t f, objS L k = some (.cells c t f)
  | [], k, h => by cases k <;> simp [isC] at h
  | .inl (.cells c t f) :: L, 0, _ => ⟨c, t, f, rfl⟩
  | x :: L, k + 1, h => by rw [isC_s] at h; rw [objS_s]; exact obj_of_isC L k h
  | .inr _ :: _, 0, h => by simp [isC] at h
  | .inl (.pending _ _) :: _, 0, h => by simp [isC] at h
  | .inl (.view _ _) :: _, 0, h => by simp [isC] at h
  | .inl (.number _ _) :: _, 0, h => by simp [isC] at h
  | .inl (.map _ _) :: _, 0, h => by simp [isC] at h
  | .inl (.chan _ _ _ _ _ _) :: _, 0, h => by simp [isC] at h
  | .inl (.stringIter _ _) :: _, 0, h => by simp [isC] at h
  | .inl (.mapIter _ _ _ _) :: _, 0, h => by simp [isC] at h
  | .inl (.loop _) :: _, 0, h => by simp [isC] at h
  | .inl (.deferred _) :: _, 0, h => by simp [isC] at h
  | .inl (.coro _) :: _, 0, h => by simp [isC] at h
  | .inl (.finalizers _ _) :: _, 0, h => by simp [isC] at h
theorem cellS_of : ∀ (L : List (Obj ⊕ Ext)) (k i : Nat) (c : Array Value) (t : TypeId) (f : Nat × Nat), objS L k = some (.cells c t f) → cellS L k i = c[i]? ∧ frozS L k i = (decide (f.1 ≤ i) && decide (i < f.2))
  | [], k, _, _, _, _, h => by cases k <;> simp [objS] at h
  | .inl o :: L, 0, _, _, _, _, h => by simp only [objS, Option.some.injEq] at h; subst h; exact ⟨rfl, rfl⟩
  | .inr _ :: _, 0, _, _, _, _, h => by simp [objS] at h
  | x :: L, k + 1, i, c, t, f, h => by rw [objS_s] at h; rw [cellS_s, frozS_s]; exact cellS_of L k i c t f h
theorem lay_set (w : World) (i : Nat) (v : Value) : ∀ (L : List (Obj ⊕ Ext)) (k : Nat), isC L k = true → (lay w L).setCell ⟨posn w ((shp L).drop (k + 1)), i, none⟩ v = lay w (updS L k i v)
  | [], k, h => by cases k <;> simp [isC] at h
  | .inl o :: L, 0, h => by
    cases o with
    | cells c t f =>
      simp only [shp, List.drop_succ_cons, List.drop_zero, ← lay_size, lay, updS]
      unfold World.setCell World.alloc
      congr 1
      apply Array.ext_getElem?
      intro k
      rw [Array.getElem?_modify]
      by_cases hk : (lay w L).heap.size = k
      · subst hk; simp
      · have hk' : k ≠ (lay w L).heap.size := fun e => hk e.symm
        simp [hk, hk', Array.getElem?_push]
    | _ => simp [isC] at h
  | .inr d :: L, 0, h => by simp [isC] at h
  | x :: L, k + 1, h => by
    rw [isC_s] at h
    have ih := lay_set w i v L k h
    obtain ⟨c, t, f, ho⟩ := obj_of_isC L k h
    have hlt := (Array.getElem?_eq_some_iff.1 (lay_get w L k _ ho)).1
    rw [updS_s]
    cases x with
    | inl o' => simp only [shp, List.drop_succ_cons, lay]; rw [World.setCell_alloc_past _ _ _ _ hlt, ih]
    | inr d => simp only [shp, List.drop_succ_cons, lay]; rw [bw_setCell _ _ _ _ _ hlt, ih]

section
variable (w : World) (L : List (Obj ⊕ Ext)) (p : List Nat) (i : Nat) (v : Value)
theorem depth_eq (h : (shp L).drop (L.length - p.length) = p) (h2 : p.length < L.length) : p = (shp L).drop (L.length - p.length - 1 + 1) := by
  rw [show L.length - p.length - 1 + 1 = L.length - p.length by omega]; exact h.symm
@[go_sem] theorem lay_cell (h2 : p.length < L.length) (h : (shp L).drop (L.length - p.length) = p) (h3 : isC L (L.length - p.length - 1) = true) :
    (lay w L).cell? ⟨posn w p, i, none⟩ = cellS L (L.length - p.length - 1) i := by
  obtain ⟨c, t, f, ho⟩ := obj_of_isC L _ h3
  have := lay_get w L _ _ ho
  rw [← depth_eq L p h h2] at this
  rw [(cellS_of L _ i c t f ho).1]
  simp [World.cell?, this]
@[go_sem] theorem lay_froz (h2 : p.length < L.length) (h : (shp L).drop (L.length - p.length) = p) (h3 : isC L (L.length - p.length - 1) = true) :
    (lay w L).frozen? ⟨posn w p, i, none⟩ = frozS L (L.length - p.length - 1) i := by
  obtain ⟨c, t, f, ho⟩ := obj_of_isC L _ h3
  have := lay_get w L _ _ ho
  rw [← depth_eq L p h h2] at this
  rw [(cellS_of L _ i c t f ho).2]
  obtain ⟨f1, f2⟩ := f
  simp [World.frozen?, this]
@[go_sem] theorem lay_setCell (h2 : p.length < L.length) (h : (shp L).drop (L.length - p.length) = p) (h3 : isC L (L.length - p.length - 1) = true) :
    (lay w L).setCell ⟨posn w p, i, none⟩ v = lay w (updS L (L.length - p.length - 1) i v) := by
  have := lay_set w i v L _ h3
  rw [← depth_eq L p h h2] at this
  exact this
@[go_sem] theorem lay_heap (h2 : p.length < L.length) (h : (shp L).drop (L.length - p.length) = p) (h3 : (objS L (L.length - p.length - 1)).isSome = true) :
    (lay w L).heap[posn w p]? = objS L (L.length - p.length - 1) := by
  obtain ⟨o, ho⟩ := Option.isSome_iff_exists.1 h3
  have := lay_get w L _ _ ho
  rw [← depth_eq L p h h2] at this
  rw [this, ho]
end
theorem lay_start {P : Program} {f : FuncId} {args : Array Value} {w : World} {R : Ending → World → Prop} (h : Calls P f args (lay w []) R) : Calls P f args w R := h
/-- A contract at a world of the class leaves a world of the class. -/
theorem bq {P : Program} {f : FuncId} {args : Array Value} {W : World} {v : Value} {C : World → Prop}
    (h : Calls P f args W fun e w' => e = .returned v ∧ ∃ d, w' = bw W d) (hC : ∀ d, C (bw W d)) : Calls P f args W fun e w' => e = .returned v ∧ C w' :=
  h.mono fun _ _ ⟨he, d, hw⟩ => ⟨he, by rw [hw]; exact hC d⟩
theorem bqs {P : Program} {f : FuncId} {args : Array Value} {W : World} {v : Value} {C : World → Prop}
    (h : Calls P f args W fun e w' => e = .returned v ∧ w' = W) (hC : C W) : Calls P f args W fun e w' => e = .returned v ∧ C w' :=
  h.mono fun _ _ ⟨he, hw⟩ => ⟨he, by rw [hw]; exact hC⟩
theorem lay_join (w : World) (L : List (Obj ⊕ Ext)) (d e : Ext) : ∃ x, bw (lay w (.inr d :: L)) e = lay w (.inr x :: L) := ⟨_, bw_bw (lay w L) d e⟩
/-- A cell that reads so reads so in each world further on. -/
theorem cell_on {w : World} {L : List (Obj ⊕ Ext)} {b i : Nat} {v : Value} (h : (lay w L).cell? ⟨b, i, none⟩ = some v) (x : Obj ⊕ Ext) : (lay w (x :: L)).cell? ⟨b, i, none⟩ = some v := by
  have hlt := World.block_lt_of_cell? _ _ h
  cases x with
  | inl o => exact (World.cell?_alloc_past _ _ _ hlt).trans h
  | inr d => exact (bw_cell _ _ _ _ hlt).trans h
structure CellMore (w : World) (L : List (Obj ⊕ Ext)) (b i : Nat) (v : Value) : Prop where
  m0 : (lay w L).cell? ⟨b, i, none⟩ = some v
  m1 : ∀ x1, (lay w (x1 :: L)).cell? ⟨b, i, none⟩ = some v
  m2 : ∀ x1 x2, (lay w (x1 :: x2 :: L)).cell? ⟨b, i, none⟩ = some v
  m3 : ∀ x1 x2 x3, (lay w (x1 :: x2 :: x3 :: L)).cell? ⟨b, i, none⟩ = some v
  m4 : ∀ x1 x2 x3 x4, (lay w (x1 :: x2 :: x3 :: x4 :: L)).cell? ⟨b, i, none⟩ = some v
  m5 : ∀ x1 x2 x3 x4 x5, (lay w (x1 :: x2 :: x3 :: x4 :: x5 :: L)).cell? ⟨b, i, none⟩ = some v
  m6 : ∀ x1 x2 x3 x4 x5 x6, (lay w (x1 :: x2 :: x3 :: x4 :: x5 :: x6 :: L)).cell? ⟨b, i, none⟩ = some v
theorem cell_more {w : World} {L : List (Obj ⊕ Ext)} {b i : Nat} {v : Value} (h : (lay w L).cell? ⟨b, i, none⟩ = some v) : CellMore w L b i v :=
  ⟨h, fun _ => cell_on h _, fun _ _ => cell_on (cell_on h _) _, fun _ _ _ => cell_on (cell_on (cell_on h _) _) _, fun _ _ _ _ => cell_on (cell_on (cell_on (cell_on h _) _) _) _,
    fun _ _ _ _ _ => cell_on (cell_on (cell_on (cell_on (cell_on h _) _) _) _) _, fun _ _ _ _ _ _ => cell_on (cell_on (cell_on (cell_on (cell_on (cell_on h _) _) _) _) _) _⟩
theorem lay_exb (w : World) (L : List (Obj ⊕ Ext)) (d : Ext) : ∃ e, bw (lay w L) d = bw w e := lay_ex w (.inr d :: L)
end Go.Proofs.Ytakcfcekdngndaa
/- The step from a law's walk to its row: every argument reads behind the call as it did before; the result is true. -/
namespace Go.Proofs.Ytakcfcekdngndaa
open Go.ChangeShapes Go.WideShapes Go.ChangeAt Go.RowKit Go.Joins

theorem ownKnob_none : ownKnob Try.prog.godebug = none := by kernel_rfl
theorem laid_out : laidOutB Try.prog = true := by kernel_rfl

theorem trodAll_stays {H : Type} {enc : TypeId × Value → H} {P : Program} (hl : laidOutB P = true) {W W' : World} (hb : Below W.heap.size W W') :
    ∀ (ts : List TypeId) (vs : List Value) (ds : List (DataW H)) (ps : List MemPlace), ts.all (fun t => P.readableRec t && decide (t < P.types.size)) = true →
    (∀ x ∈ ps, x.block < W.heap.size) → DataW.TrodAll enc P W 0 (fun _ => true) true ts vs ds ps → DataW.TrodAll enc P W' 0 (fun b => decide (b < W.heap.size)) true ts vs ds ps
  | [], vs, ds, ps, _, _, h => by cases vs <;> cases ds <;> simp_all [DataW.TrodAll]
  | t :: ts, vs, ds, ps, hr, hlt, h => by
    obtain ⟨v, vs', d, ds', p, q, rfl, rfl, rfl, h1, h2⟩ := trodAll_cons h
    simp only [List.all_cons, Bool.and_eq_true, decide_eq_true_eq] at hr
    exact ⟨p, q, Below.trod hl hr.1.1 hr.1.2 h1 hb (fun x hx => hlt x (List.mem_append_left _ hx)),
      trodAll_stays hl hb ts vs' ds' q hr.2 (fun x hx => hlt x (List.mem_append_right _ hx)) h2, rfl⟩

theorem law_post {H : Type} {enc : TypeId × Value → H} {P : Program} {f : Func} {s : ChangeSpec} {W W' : World} {args : Array Value} {ds : List (DataW H)} {before : List MemPlace} {tb : TypeId}
    (hl : laidOutB P = true) (hW : DataW.Whole enc P f.params.toList s.vars false W args.toList ds [] before) (hv : s.vars = [])
    (hs : s.fn H (ds ++ []) = { results := [.lit (.bool true)], args := ds }) (hrt : f.resultTypes = #[tb]) (htb : P.underlying tb = some .bool)
    (hr : f.params.toList.all (fun t => P.readableRec t && decide (t < P.types.size)) = true) (hb : Below W.heap.size W W') :
    s.post enc P f false true false false W args (.bool true) W' := by
  have hlt := hW.lt
  have hW' := hW
  obtain ⟨p, q, hA, hV, rfl, hfz, hnd⟩ := hW'
  rw [hv] at hV
  have hq : q = [] := by simpa [DataW.TrodVars] using hV
  subst hq
  simp only [List.append_nil] at hlt hW
  refine ⟨ds, [], p, [], p, [], hW, ?_, ?_, ?_, hb.frame _, fun h => by cases h⟩
  · rw [hs, hrt]
    exact ⟨[], [], shut_bool htb true, rfl, rfl⟩
  · rw [hs]
    exact trodAll_stays hl hb _ _ _ _ hr hlt hA
  · rw [hs, hv]
    rfl
end Go.Proofs.Ytakcfcekdngndaa
/- A region that draws its order, with one 'alloc' that waits for nothing, quiet operations beside it, and a tail behind all of them. No program in sight. -/
namespace Go.Proofs.Ytakcfcekdngndaa
open Go.RowKit

/-- What is asked of an operation's run: its value in the very world, or a call that hands it back and only adds to the world. -/
def extUpon (P : Program) (w : World) (v : Value) : Result Next → Prop
  | .ok (.value u) w' => w' = w ∧ u = v
  | .ok .skip w' => w' = w ∧ v = undef
  | .ok (.enter f args) w' => w' = w ∧ Calls P f args w (fun e w'' => e = .returned v ∧ ∃ d, w'' = bw w d)
  | _ => False
def extOp (P : Program) (o : Oper) (a : Act) (W : World) (next : Act → Prop) : Prop := ∃ v, (∀ d : Ext, extUpon P (bw W d) v ((execOp a.eval o).run P (bw W d))) ∧ next (a.put o.dst v)
/-- The walk in the text's order. -/
def wpExt (P : Program) (ops : Array Oper) (W : World) (Q : Act → Prop) : List Oper → Act → Prop
  | [], a => Q a
  | o :: rest, a => if Region.wanted o (yielded ops a.tmps) then extOp P o a W (wpExt P ops W Q rest) else wpExt P ops W Q rest (a.put o.dst undef)
attribute [go_sem] extOp extUpon

section
variable {P : Program} {ops : Array Oper} {md : Region.Mode} {W : World}
theorem wpExt_nil {Q : Act → Prop} {a : Act} (h : Q a) : wpExt P ops W Q [] a := h
theorem wpExt_step {Q : Act → Prop} {a : Act} {o : Oper} {rest : List Oper}
    (h : ∀ K : Act → Prop, (∀ a, wpExt P ops W Q rest a → K a) → if Region.wanted o (yielded ops a.tmps) then extOp P o a W K else K (a.put o.dst undef)) : wpExt P ops W Q (o :: rest) a :=
  h _ (fun _ h => h)

def eOp (P : Program) (ops : Array Oper) (W : World) (i : Nat) (K : Act → Prop) (a : Act) : Prop :=
  match ops[i]? with
  | none => K a
  | some o => if Region.wanted o (yielded ops a.tmps) then extOp P o a W K else K (a.put o.dst undef)
theorem eOp_some {i : Nat} {o : Oper} {K : Act → Prop} {a : Act} (hi : ops[i]? = some o) :
    eOp P ops W i K a = if Region.wanted o (yielded ops a.tmps) then extOp P o a W K else K (a.put o.dst undef) := by unfold eOp; rw [hi]
theorem eOp_mono {i : Nat} {a : Act} {K K' : Act → Prop} (h : ∀ a, K a → K' a) (hh : eOp P ops W i K a) : eOp P ops W i K' a := by
  cases ho : ops[i]? with
  | none => simp only [eOp, ho] at hh ⊢; exact h _ hh
  | some o =>
    rw [eOp_some ho] at hh ⊢
    split
    · rename_i hw; rw [if_pos hw] at hh; obtain ⟨v, h1, h2⟩ := hh; exact ⟨v, h1, h _ h2⟩
    · rename_i hw; rw [if_neg hw] at hh; exact h _ hh
/-- In state a the operation yields v, in every world of the class. -/
def YieldsE (P : Program) (ops : Array Oper) (W : World) (o : Oper) (v : Value) (a : Act) : Prop :=
  (Region.wanted o (yielded ops a.tmps) = true ∧ ∀ d : Ext, extUpon P (bw W d) v ((execOp a.eval o).run P (bw W d))) ∨ (Region.wanted o (yielded ops a.tmps) = false ∧ v = undef)
theorem YieldsE.eOp {i : Nat} {o : Oper} {v : Value} {a : Act} (hi : ops[i]? = some o) (hy : YieldsE P ops W o v a) {K : Act → Prop} (h : K (a.put o.dst v)) : eOp P ops W i K a := by
  rw [eOp_some hi]
  rcases hy with ⟨hw, hv⟩ | ⟨hw, rfl⟩
  · rw [if_pos hw]; exact ⟨v, hv, h⟩
  · rw [if_neg (by rw [hw]; exact Bool.false_ne_true)]; exact h
theorem yieldsE_of {i : Nat} {o : Oper} {a : Act} {K : Act → Prop} (hi : ops[i]? = some o) (h : Go.Proofs.Ytakcfcekdngndaa.eOp P ops W i K a) : ∃ v, YieldsE P ops W o v a ∧ K (a.put o.dst v) := by
  rw [eOp_some hi] at h
  by_cases hw : Region.wanted o (yielded ops a.tmps) = true
  · rw [if_pos hw] at h
    obtain ⟨v, h1, h2⟩ := h
    exact ⟨v, .inl ⟨hw, h1⟩, h2⟩
  · rw [if_neg hw] at h
    exact ⟨undef, .inr ⟨by simpa using hw, rfl⟩, h⟩
theorem eOp_put {j : Nat} {oi oj : Oper} {v : Value} (hj : ops[j]? = some oj) (hap : oi.apart ops oj = true)
    (hsi : ∀ cs b, oi.op ≠ .select cs b) (hsj : ∀ cs b, oj.op ≠ .select cs b) {K : Act → Prop} {a : Act}
    (hy : YieldsE P ops W oi v a) (h : eOp P ops W j K (a.put oi.dst v)) :
    eOp P ops W j (fun a' => YieldsE P ops W oi v a' ∧ K (a'.put oi.dst v)) a := by
  obtain ⟨h1, h2, h3⟩ := Oper.apart_spec hap
  have keep : ∀ u, YieldsE P ops W oi v (a.put oj.dst u) := fun u => by
    unfold YieldsE at *
    rw [execOp_put oi hsi a oj.dst u h3, wanted_put oi a oj.dst u h3]
    exact hy
  rw [eOp_some hj, wanted_put oj a oi.dst v h1] at h
  rw [eOp_some hj]
  split
  · rename_i hw
    rw [if_pos hw] at h
    obtain ⟨u, hu, hn⟩ := h
    refine ⟨u, fun d => ?_, keep u, by rw [← Act.put_comm a v u h2]; exact hn⟩
    have := hu d
    rwa [execOp_put oj hsj a oi.dst v h1] at this
  · rename_i hw
    rw [if_neg hw] at h
    exact ⟨keep _, by rw [← Act.put_comm a v undef h2]; exact h⟩

def headE (P : Program) (md : Region.Mode) (ops : Array Oper) (W : World) (n : Nat) (L : Array Bool → Act → Prop) : Nat → Array Bool → Act → Prop
  | 0, listed, a => L listed a
  | f + 1, listed, a => Region.ready md ops listed ≠ [] ∧ ∀ i ∈ Region.ready md ops listed, i < n ∧ eOp P ops W i (headE P md ops W n L f (listed.setIfInBounds i true)) a

theorem headE_first {n i : Nat} {oi : Oper} {v : Value} {L : Array Bool → Act → Prop} (hi : ops[i]? = some oi) (hsel : ∀ (j : Nat) (o : Oper) cs b, ops[j]? = some o → o.op ≠ .select cs b)
    (hs : Region.sinkB md ops n = true) (hc : Region.chainB md ops n = true) (hn : n < ops.size) (hin : i < n)
    (hdone : ∀ listed a, L listed a → ∀ j ∈ Region.ready md ops listed, n ≤ j) (f : Nat) :
    ∀ (listed : Array Bool) (a : Act), HeadInv md ops n listed →
      (∀ j oj, ops[j]? = some oj → j ≠ i → listed.getD j true = false → (∀ e ∈ oj.after, Region.binds md e = true → e.on ≠ i) → oi.apart ops oj = true) →
      i ∈ Region.ready md ops listed → YieldsE P ops W oi v a →
      headE P md ops W n L f (listed.setIfInBounds i true) (a.put oi.dst v) → headE P md ops W n L (f + 1) listed a := by
  induction f with
  | zero =>
    intro listed a inv _ hr hy H
    have hun := (mem_ready.1 hr).1
    have early : ∀ j ∈ Region.ready md ops listed, j < n := fun j hj =>
      Nat.lt_of_not_le fun hle => tail_waits hs hc hn inv _ i rfl hin hun j hle hj
    refine ⟨List.ne_nil_of_mem hr, fun j hj => ⟨early j hj, ?_⟩⟩
    by_cases hji : j = i
    · subst hji; exact hy.eOp hi H
    · exact absurd (hdone _ _ H j (ready_mono hj hji)) (Nat.not_le_of_lt (early j hj))
  | succ f ih =>
    intro listed a inv hfree hr hy H
    have hun := (mem_ready.1 hr).1
    have early : ∀ j ∈ Region.ready md ops listed, j < n := fun j hj =>
      Nat.lt_of_not_le fun hle => tail_waits hs hc hn inv _ i rfl hin hun j hle hj
    refine ⟨List.ne_nil_of_mem hr, fun j hj => ⟨early j hj, ?_⟩⟩
    by_cases hji : j = i
    · subst hji; exact hy.eOp hi H
    · have h1 := (H.2 j (ready_mono hj hji)).2
      obtain ⟨hjun, oj, hoj, hall⟩ := mem_ready.1 hj
      have hnot : ∀ e ∈ oj.after, Region.binds md e = true → e.on ≠ i := fun e he hb heq => by
        have h2 := hall e he hb
        rw [heq, getD_both hun] at h2
        cases h2
      have h2 := eOp_put hoj (hfree j oj hoj hji hjun hnot) (fun cs b => hsel i oi cs b hi) (fun cs b => hsel j oj cs b hoj) hy h1
      have hfree' : ∀ k ok, ops[k]? = some ok → k ≠ i → (listed.setIfInBounds j true).getD k true = false →
          (∀ e ∈ ok.after, Region.binds md e = true → e.on ≠ i) → oi.apart ops ok = true := fun k ok hk hki hu hno => by
        refine hfree k ok hk hki ?_ hno
        by_cases hjk : j = k
        · subst hjk; exact hjun
        · rw [getD_set_ne true hjk] at hu; exact hu
      refine eOp_mono (fun a' h3 => ih (listed.setIfInBounds j true) a' (inv.set hj (early j hj)) hfree' (ready_mono hr (Ne.symm hji)) h3.1 ?_) h2
      rw [Array.setIfInBounds_comm _ _ hji]
      exact h3.2

/-- The text's order serves, the operation kA left out (it is listed from the beginning). -/
def lexA (md : Region.Mode) (ops : Array Oper) (g kA : Nat) : Nat → Nat → Array Bool → Bool
  | 0, k, listed => Region.seqB md ops g k listed
  | f + 1, k, listed => if k = kA then lexA md ops g kA f (k + 1) listed else (Region.ready md ops listed).contains k && Region.free md ops listed k && lexA md ops g kA f (k + 1) (listed.setIfInBounds k true)
def skipL (kA : Nat) : Nat → List Oper → List Oper
  | _, [] => []
  | k, o :: l => if k = kA then skipL kA (k + 1) l else o :: skipL kA (k + 1) l
theorem headE_lex {n g kA : Nat} {Lq : Act → Prop} (hsel : Region.noSelect ops = true) (hs : Region.sinkB md ops n = true) (hc : Region.chainB md ops n = true) (hn : n < ops.size) :
    ∀ (l : List Oper) (k : Nat) (listed : Array Bool) (a : Act), (∀ j, j < l.length → l[j]? = ops[k + j]?) → k + l.length = n → HeadInv md ops n listed →
    lexA md ops g kA l.length k listed = true → wpExt P ops W Lq (skipL kA k l) a →
    headE P md ops W n (fun listed' a' => Region.seqB md ops g n listed' = true ∧ Lq a') (skipL kA k l).length listed a
  | [], k, listed, a, _, hk, _, hB, h => by
    obtain rfl : k = n := by simpa using hk
    exact ⟨by simpa [lexA] using hB, h⟩
  | o :: l, k, listed, a, hl, hk, inv, hB, h => by
    have h0 : ops[k]? = some o := by simpa using (hl 0 (by simp)).symm
    simp only [List.length_cons] at hk
    have hrest : ∀ j, j < l.length → l[j]? = ops[k + 1 + j]? := fun j hj => by have := hl (j + 1) (by simp; omega); simpa [Nat.add_assoc, Nat.add_comm 1 j] using this
    by_cases hkA : k = kA
    · simp only [List.length_cons, lexA, hkA, if_true] at hB
      simp only [skipL, hkA, if_true] at h ⊢
      subst hkA
      exact headE_lex hsel hs hc hn l (k + 1) listed a hrest (by omega) inv hB h
    · simp only [List.length_cons, lexA, hkA, if_false, Bool.and_eq_true] at hB
      simp only [skipL, hkA, if_false] at h ⊢
      obtain ⟨⟨hr, hf⟩, hB'⟩ := hB
      have hkn : k < n := by omega
      have hr' : k ∈ Region.ready md ops listed := by simpa using hr
      have hst : eOp P ops W k (wpExt P ops W Lq (skipL kA (k + 1) l)) a := by rw [eOp_some h0]; exact h
      obtain ⟨v, hy, hK⟩ := yieldsE_of h0 hst
      exact headE_first h0 (Region.noSelect_spec hsel) hs hc hn hkn (fun listed' a' hL => seqB_ready hL.1) _ listed a inv (Region.free_spec h0 hf) hr' hy
        (headE_lex hsel hs hc hn l (k + 1) _ _ hrest (by omega) (inv.set hr' hkn) hB' hK)

/-- One operation of the head, in a state in which the new block's address may already stand in its slot. -/
theorem wpOp_of_eOp {j : Nat} {K : Act → Prop} {K' : Act → World → Prop} {Q' : Exit → Act → World → Prop} {a : Act} {w : World} {dA : Option Tmp} {u : Value}
    (hC : ∃ d, w = bw W d) (hap : ∀ o, ops[j]? = some o → (∀ d, dA = some d → d ∉ o.looksAt ops) ∧ (∀ d, o.dst = some d → dA ≠ some d) ∧ ∀ cs b, o.op ≠ .select cs b)
    (h : ∀ a' d, K a' → K' (a'.put dA u) (bw w d)) (h0 : ∀ a', K a' → K' (a'.put dA u) w) (hh : eOp P ops W j K a) : wpOp P ops Q' j K' (a.put dA u) w := by
  unfold wpOp
  cases ho : ops[j]? with
  | none => simp only [eOp, ho] at hh; exact h0 _ hh
  | some o =>
    obtain ⟨p1, p2, p3⟩ := hap o ho
    rw [eOp_some ho] at hh
    simp only
    rw [wanted_put o a dA u p1]
    split
    · rename_i hw
      rw [if_pos hw] at hh
      obtain ⟨v, h1, h2⟩ := hh
      refine Or.inl ?_
      unfold Oper.wp
      rw [execOp_put o p3 a dA u p1]
      obtain ⟨d, hd⟩ := hC
      have h3 := h1 d
      rw [← hd] at h3
      have hput : ∀ x, (a.put dA u).put o.dst x = (a.put o.dst x).put dA u := fun x => (Act.put_comm a x u p2).symm
      generalize (execOp a.eval o).run P w = r at *
      cases r with
      | ok nx w' =>
        cases nx <;> simp only [extUpon] at h3 <;> simp only [Oper.upon]
        case value x => obtain ⟨e1, e2⟩ := h3; rw [e1, e2, hput]; exact h0 _ h2
        case skip => obtain ⟨e1, e2⟩ := h3; rw [e1, ← e2, hput]; exact h0 _ h2
        case enter f args =>
          obtain ⟨e1, hc⟩ := h3
          rw [e1]
          refine hc.mono fun e w'' ⟨he, dd, hw''⟩ => ?_
          subst he
          show K' ((a.put dA u).put o.dst v) w''
          rw [hw'', hput]
          exact h _ dd h2
      | halt x w' => simp only [extUpon] at h3
    · rename_i hw
      rw [if_neg hw] at hh
      rw [show (a.put dA u).put o.dst undef = (a.put o.dst undef).put dA u from (Act.put_comm a undef u p2).symm]
      exact h0 _ hh

/-- The new block lies in the world as it was made. -/
def Fresh (W : World) (obj : Obj) (p : Nat) (w : World) : Prop := (∃ d, w = bw W d) ∧ W.heap.size ≤ p ∧ w.heap[p]? = some obj
theorem Fresh.bw {obj : Obj} {p : Nat} {w : World} (h : Fresh W obj p w) (d : Ext) : Fresh W obj p (bw w d) := by
  obtain ⟨⟨e, rfl⟩, h2, h3⟩ := h
  exact ⟨⟨_, bw_bw W e d⟩, h2, (bw_get _ _ _ (Array.getElem?_eq_some_iff.1 h3).1).trans h3⟩

/-- Such a world written out. -/
theorem Fresh.split {obj : Obj} {p : Nat} {w : World} (h : Fresh W obj p w) : ∃ d1 d2, w = Go.Proofs.Ytakcfcekdngndaa.bw ((Go.Proofs.Ytakcfcekdngndaa.bw W d1).alloc obj) d2 ∧ p = (Go.Proofs.Ytakcfcekdngndaa.bw W d1).heap.size := by
  obtain ⟨⟨d, rfl⟩, h2, h3⟩ := h
  have h4 : d.blocks[p - W.heap.size]? = some obj := by
    simp only [Go.Proofs.Ytakcfcekdngndaa.bw, Array.getElem?_append] at h3
    rwa [if_neg (by omega)] at h3
  obtain ⟨hk, h5⟩ := Array.getElem?_eq_some_iff.1 h4
  refine ⟨⟨d.blocks.extract 0 (p - W.heap.size), 0⟩, ⟨d.blocks.extract (p - W.heap.size + 1) d.blocks.size, d.drawn⟩, ?_, ?_⟩
  · show ({ W with heap := W.heap ++ d.blocks, drawn := d.drawn } : World) = { W with heap := (W.heap ++ d.blocks.extract 0 (p - W.heap.size)).push obj ++ d.blocks.extract (p - W.heap.size + 1) d.blocks.size, drawn := d.drawn }
    have e : W.heap ++ d.blocks = (W.heap ++ d.blocks.extract 0 (p - W.heap.size)).push obj ++ d.blocks.extract (p - W.heap.size + 1) d.blocks.size := by
      rw [← Array.append_push, Array.append_assoc]
      congr 1
      apply Array.ext_getElem?
      intro i
      simp only [Array.getElem?_append, Array.getElem?_push, Array.size_push, Array.size_extract, Array.getElem?_extract]
      by_cases h6 : i < p - W.heap.size
      · rw [if_pos (by omega), if_neg (by omega), if_pos (by omega)]; simp
      · by_cases h7 : i = p - W.heap.size
        · subst h7; rw [if_pos (by omega), if_pos (by omega), h4]
        · rw [if_neg (by omega)]
          by_cases h8 : i < d.blocks.size
          · rw [if_pos (by omega)]; congr 1; omega
          · rw [if_neg (by omega)]; exact Array.getElem?_eq_none (by omega)
    rw [e]
  · simp only [Go.Proofs.Ytakcfcekdngndaa.bw, Array.size_append, Array.size_extract]; omega

def apartB (ops : Array Oper) (n kA : Nat) (oA : Oper) : Bool := (List.range n).all fun j => j == kA || match ops[j]? with | some o => oA.apart ops o | none => true

theorem after_alloc {n g kA : Nat} {oA : Oper} {obj : Obj} {L : Array Bool → Act → Prop} {Q' : Exit → Act → World → Prop} (hsel : Region.noSelect ops = true) (hap : apartB ops n kA oA = true)
    (hL : ∀ listed a p w, Fresh W obj p w → L listed a → wpAny P md ops Q' g listed (a.put oA.dst (.pointer (some ⟨p, 0, none⟩))) w) :
    ∀ (f : Nat) (listed : Array Bool) (a : Act) (p : Nat) (w : World), Fresh W obj p w → listed.getD kA true = true → headE P md ops W n L f listed a →
      wpAny P md ops Q' (f + g) listed (a.put oA.dst (.pointer (some ⟨p, 0, none⟩))) w
  | 0, listed, a, p, w, hF, _, h => by rw [Nat.zero_add]; exact hL _ _ _ _ hF h
  | f + 1, listed, a, p, w, hF, hk, h => by
    rw [show f + 1 + g = (f + g) + 1 by omega]
    refine ⟨fun h0 => absurd h0 h.1, fun i hi => ?_⟩
    obtain ⟨hin, he⟩ := h.2 i hi
    have hne : i ≠ kA := fun e => by rw [e] at hi; rw [(mem_ready.1 hi).1] at hk; cases hk
    have hk' : (listed.setIfInBounds i true).getD kA true = true := by rw [getD_set_ne true hne]; exact hk
    refine wpOp_of_eOp hF.1 (fun o ho => ?_) (fun a' d hK => after_alloc hsel hap hL f _ a' p _ (hF.bw d) hk' hK) (fun a' hK => after_alloc hsel hap hL f _ a' p w hF hk' hK) he
    have h1 := List.all_eq_true.1 hap i (List.mem_range.2 hin)
    simp only [Bool.or_eq_true, beq_iff_eq, hne, false_or, ho] at h1
    obtain ⟨q1, q2, _⟩ := Oper.apart_spec h1
    exact ⟨q1, fun d hd hx => q2 d hx hd, fun cs b => Region.noSelect_spec hsel i o cs b ho⟩

theorem before_alloc {n g kA : Nat} {oA : Oper} {obj : Obj} {L : Array Bool → Act → Prop} {Q' : Exit → Act → World → Prop} (hsel : Region.noSelect ops = true) (hap : apartB ops n kA oA = true)
    (hA : ops[kA]? = some oA) (hno : oA.after = #[]) (hg : oA.guard = none) (hrun : ∀ (a : Act) (w : World), (execOp a.eval oA).run P w = .ok (.value (.pointer (some ⟨w.heap.size, 0, none⟩))) (w.alloc obj))
    (hwait : Region.waitsFor md ops n kA = true) (hchain : Region.chainB md ops n = true) (hkn : kA < n)
    (hdone : ∀ listed a, L listed a → ∀ j ∈ Region.ready md ops listed, j = n)
    (hL : ∀ listed a p w, Fresh W obj p w → L listed a → wpAny P md ops Q' g listed (a.put oA.dst (.pointer (some ⟨p, 0, none⟩))) w) :
    ∀ (f : Nat) (listed : Array Bool) (a : Act) (w : World), (∃ d, w = bw W d) → listed.getD kA true = false → headE P md ops W n L f (listed.setIfInBounds kA true) a →
      wpAny P md ops Q' (f + g + 1) listed a w := by
  intro f
  have atA : ∀ (f : Nat) (listed : Array Bool) (a : Act) (w : World), (∃ d, w = bw W d) → listed.getD kA true = false → headE P md ops W n L f (listed.setIfInBounds kA true) a →
      wpOp P ops Q' kA (wpAny P md ops Q' (f + g) (listed.setIfInBounds kA true)) a w := fun f listed a w hw hk h => by
    unfold wpOp
    rw [hA]
    simp only [Region.wanted, hg, if_true]
    refine Or.inl ?_
    unfold Oper.wp
    rw [hrun]
    simp only [Oper.upon]
    obtain ⟨d, rfl⟩ := hw
    refine after_alloc hsel hap hL f _ a _ _ ⟨?_, bw_le W d, ?_⟩ ?_ h
    · have hb := (bw_below W d).alloc (bw_le W d) obj
      exact bw_of hb
    · show ((bw W d).heap.push obj)[_]? = _
      simp
    · have hlt : kA < listed.size := by
        rcases Nat.lt_or_ge kA listed.size with h' | h'
        · exact h'
        · simp [Array.getElem?_eq_none h'] at hk
      simp [hlt]
  have rA : ∀ listed : Array Bool, listed.getD kA true = false → kA ∈ Region.ready md ops listed := fun listed hk => mem_ready.2 ⟨hk, oA, hA, fun e he => by rw [hno] at he; simp at he⟩
  induction f with
  | zero =>
    intro listed a w hw hk h
    rw [show 0 + g + 1 = (0 + g) + 1 by omega]
    refine ⟨fun h0 => absurd h0 (List.ne_nil_of_mem (rA listed hk)), fun i hi => ?_⟩
    by_cases hik : i = kA
    · subst hik; exact atA 0 listed a w hw hk h
    · have hin := hdone _ _ h i (ready_mono hi hik)
      exfalso
      subst hin
      obtain ⟨oj, hoj, e, he, hb, hon⟩ := Region.waitsFor_spec hwait
      obtain ⟨_, o', ho', hall⟩ := mem_ready.1 hi
      have : o' = oj := Option.some.inj (ho'.symm.trans hoj)
      subst this
      have h2 := hall e he hb
      rw [hon, getD_both hk] at h2
      cases h2
  | succ f ih =>
    intro listed a w hw hk h
    rw [show f + 1 + g + 1 = (f + g + 1) + 1 by omega]
    refine ⟨fun h0 => absurd h0 (List.ne_nil_of_mem (rA listed hk)), fun i hi => ?_⟩
    by_cases hik : i = kA
    · subst hik
      have := atA (f + 1) listed a w hw hk h
      rwa [show f + 1 + g = f + g + 1 by omega] at this
    · obtain ⟨hin, he⟩ := h.2 i (ready_mono hi hik)
      have hk' : (listed.setIfInBounds i true).getD kA true = false := by rw [getD_set_ne true hik]; exact hk
      have step : ∀ a' w', (∃ d, w' = bw W d) → headE P md ops W n L f ((listed.setIfInBounds kA true).setIfInBounds i true) a' → wpAny P md ops Q' (f + g + 1) (listed.setIfInBounds i true) a' w' := fun a' w' hw' hK =>
        ih _ a' w' hw' hk' (by rw [← Array.setIfInBounds_comm _ _ hik] at *; exact hK)
      have := wpOp_of_eOp (Q' := Q') (dA := none) (u := undef) (K' := wpAny P md ops Q' (f + g + 1) (listed.setIfInBounds i true)) hw
        (fun o ho => ⟨(fun d hd => nomatch hd), (fun d _ hx => nomatch hx), fun cs b => Region.noSelect_spec hsel i o cs b ho⟩)
        (fun a' d hK => step a' _ (by obtain ⟨e, rfl⟩ := hw; exact ⟨_, bw_bw W e d⟩) hK) (fun a' hK => step a' w hw hK) he
      exact this

def allocB (md : Region.Mode) (ops : Array Oper) (n kA : Nat) : Bool :=
  match ops[kA]? with
  | none => false
  | some oA => Region.noSelect ops && decide (n < ops.size) && decide (kA < n) && Region.sinkB md ops n && Region.chainB md ops n && Region.waitsFor md ops n kA && apartB ops n kA oA && oA.after.isEmpty && oA.guard.isNone &&
    decide ((skipL kA 0 (ops.toList.take n)).length + 1 = n) && lexA md ops (ops.size - n) kA n 0 ((Array.replicate ops.size false).setIfInBounds kA true)

/-- A region that draws its order, one 'alloc' (number kA) among quiet operations, the operations from n on behind all of them. -/
theorem region_bw_alloc {id : Nat} {Q : Exit → Act → World → Prop} {a : Act} {w : World} {l : List Oper} (n kA : Nat) (oA : Oper) (obj : Obj) (hm : P.follows .mixedOrders = true) (hB : allocB .any l.toArray n kA = true)
    (hA : l[kA]? = some oA) (hrun : ∀ (a : Act) (w : World), (execOp a.eval oA).run P w = .ok (.value (.pointer (some ⟨w.heap.size, 0, none⟩))) (w.alloc obj))
    (h : wpExt P l.toArray w (fun a' => ∀ d1 d2, wpList P l.toArray Q (l.drop n) (a'.put oA.dst (.pointer (some ⟨(Go.Proofs.Ytakcfcekdngndaa.bw w d1).heap.size, 0, none⟩))) (Go.Proofs.Ytakcfcekdngndaa.bw ((Go.Proofs.Ytakcfcekdngndaa.bw w d1).alloc obj) d2)) (skipL kA 0 (l.take n)) a) : (Code.region id l.toArray true).wp P Q a w := by
  have hA' : l.toArray[kA]? = some oA := by simpa using hA
  unfold allocB at hB
  rw [hA'] at hB
  simp only [Bool.and_eq_true, decide_eq_true_eq, Array.isEmpty_iff, Option.isNone_iff_eq_none] at hB
  obtain ⟨⟨⟨⟨⟨⟨⟨⟨⟨⟨hsel, hn⟩, hkn⟩, hs⟩, hc⟩, hwait⟩, hap⟩, hno⟩, hg⟩, hlen⟩, hlex⟩ := hB
  have hn' : n < l.length := by simpa using hn
  have htl : (l.take n).length = n := by simp; omega
  have hdl : (l.drop n).length = l.toArray.size - n := by simp
  have hkl : kA < l.length := by omega
  have inv0 : HeadInv .any l.toArray n ((Array.replicate l.toArray.size false).setIfInBounds kA true) := by
    refine ⟨by simp, fun j oj hj hl => ?_, fun t ht htl' => ?_⟩
    · by_cases hjk : kA = j
      · subst hjk
        have : oj = oA := Option.some.inj (hj.symm.trans hA')
        subst this
        intro e he; rw [hno] at he; simp at he
      · rw [getD_set_ne false hjk, getD_replicate_false] at hl; cases hl
    · rw [getD_set_ne true (by omega)]
      exact getD_in (by simpa using htl') (getD_replicate_false _ _)
  have H := headE_lex (md := .any) (g := l.toArray.size - n) (kA := kA) hsel hs hc hn (l.take n) 0 _ a (fun j hj => by
    have hj' : j < n := by rw [htl] at hj; exact hj
    simp [hj']) (by simpa using htl) inv0 (by rw [htl]; exact hlex) h
  refine wp_region_any hm ?_
  have hpos : 0 < l.toArray.size - n := by omega
  have := before_alloc (Q' := Q) (md := .any) (g := l.toArray.size - n) hsel hap hA' hno hg hrun hwait hc hkn (fun listed a' hL => by
    obtain ⟨g', hg'⟩ : ∃ g', l.toArray.size - n = g' + 1 := ⟨l.toArray.size - n - 1, by omega⟩
    intro j hj
    have hL1 := hL.1
    rw [hg'] at hL1
    simp only [Region.seqB, Bool.and_eq_true, decide_eq_true_eq] at hL1
    rw [hL1.1] at hj
    simpa using hj) (fun listed a' p w' hF hL => by
    obtain ⟨d1, d2, e1, e2⟩ := hF.split
    rw [e1, e2]
    have := wpAny_of_seq (md := .any) (Q' := Q) (ops := l.toArray) (l.drop n) n listed (a'.put oA.dst (.pointer (some ⟨(Go.Proofs.Ytakcfcekdngndaa.bw w d1).heap.size, 0, none⟩))) (Go.Proofs.Ytakcfcekdngndaa.bw ((Go.Proofs.Ytakcfcekdngndaa.bw w d1).alloc obj) d2) (fun j => by simp [List.getElem?_drop]) (by rw [hdl]; exact hL.1) (hL.2 d1 d2)
    rwa [hdl] at this) _ (Array.replicate l.toArray.size false) a { w with drawn := w.drawn + 1 } ⟨_, bw_drewExt w⟩ (by simp [hkl]) H
  have hlen' : (skipL kA 0 (l.take n)).length + 1 = n := hlen
  rw [show (skipL kA 0 (l.take n)).length + (l.toArray.size - n) + 1 = l.toArray.size by omega] at this
  exact this
end
/-! ### Two allocs -/
/-- A change of the frame that an operation does not see. -/
structure Harmless (ops : Array Oper) (o : Oper) (φ : Act → Act) : Prop where
  ev : ∀ a, execOp (φ a).eval o = execOp a.eval o
  wa : ∀ a, Region.wanted o (yielded ops (φ a).tmps) = Region.wanted o (yielded ops a.tmps)
  pu : ∀ a x, (φ a).put o.dst x = φ (a.put o.dst x)
theorem Harmless.id (ops : Array Oper) (o : Oper) : Harmless ops o (fun a => a) := ⟨fun _ => rfl, fun _ => rfl, fun _ _ => rfl⟩
theorem Harmless.put {ops : Array Oper} {o oA : Oper} {φ : Act → Act} (h : Harmless ops o φ) (hap : oA.apart ops o = true) (hs : ∀ cs b, o.op ≠ .select cs b) (u : Value) : Harmless ops o (fun a => (φ a).put oA.dst u) := by
  obtain ⟨q1, q2, _⟩ := Oper.apart_spec hap
  refine ⟨fun a => (execOp_put o hs (φ a) oA.dst u q1).trans (h.ev a), fun a => (wanted_put o (φ a) oA.dst u q1).trans (h.wa a), fun a x => ?_⟩
  show ((φ a).put oA.dst u).put o.dst x = (φ (a.put o.dst x)).put oA.dst u
  rw [← h.pu]
  exact Act.put_comm (φ a) u x q2
section
variable {P : Program} {ops : Array Oper} {md : Region.Mode} {W : World}
theorem wpOp_of_eOpH {j : Nat} {K : Act → Prop} {K' : Act → World → Prop} {Q' : Exit → Act → World → Prop} {a : Act} {w : World} {φ : Act → Act}
    (hC : ∃ d, w = Go.Proofs.Ytakcfcekdngndaa.bw W d) (hap : ∀ o, ops[j]? = some o → Harmless ops o φ) (hn : ∃ o, ops[j]? = some o)
    (h : ∀ a' d, K a' → K' (φ a') (Go.Proofs.Ytakcfcekdngndaa.bw w d)) (h0 : ∀ a', K a' → K' (φ a') w) (hh : eOp P ops W j K a) : wpOp P ops Q' j K' (φ a) w := by
  obtain ⟨o, ho⟩ := hn
  have H := hap o ho
  rw [eOp_some ho] at hh
  unfold wpOp
  simp only [ho]
  rw [H.wa]
  split
  · rename_i hw
    rw [if_pos hw] at hh
    obtain ⟨v, h1, h2⟩ := hh
    refine Or.inl ?_
    unfold Oper.wp
    rw [H.ev]
    obtain ⟨d, hd⟩ := hC
    have h3 := h1 d
    rw [← hd] at h3
    generalize (execOp a.eval o).run P w = r at *
    cases r with
    | ok nx w' =>
      cases nx <;> simp only [extUpon] at h3 <;> simp only [Oper.upon]
      case value x => obtain ⟨e1, e2⟩ := h3; rw [e1, e2, H.pu]; exact h0 _ h2
      case skip => obtain ⟨e1, e2⟩ := h3; rw [e1, ← e2, H.pu]; exact h0 _ h2
      case enter f args =>
        obtain ⟨e1, hc⟩ := h3
        rw [e1]
        refine hc.mono fun e w'' ⟨he, dd, hw''⟩ => ?_
        subst he
        show K' ((φ a).put o.dst v) w''
        rw [hw'', H.pu]
        exact h _ dd h2
    | halt x w' => simp only [extUpon] at h3
  · rename_i hw
    rw [if_neg hw] at hh
    rw [H.pu]
    exact h0 _ hh

/-- All allocs are through. -/
theorem go_none {n g : Nat} {φ : Act → Act} {Fr : World → Prop} {L : Array Bool → Act → Prop} {Q' : Exit → Act → World → Prop} (ks : List Nat) (hH : ∀ j o, j < n → j ∉ ks → ops[j]? = some o → Harmless ops o φ)
    (hF : ∀ w d, Fr w → Fr (Go.Proofs.Ytakcfcekdngndaa.bw w d)) (hFW : ∀ w, Fr w → ∃ d, w = Go.Proofs.Ytakcfcekdngndaa.bw W d)
    (hL : ∀ listed a w, Fr w → L listed a → wpAny P md ops Q' g listed (φ a) w) :
    ∀ (f : Nat) (listed : Array Bool) (a : Act) (w : World), Fr w → (∀ k ∈ ks, listed.getD k true = true) → headE P md ops W n L f listed a → wpAny P md ops Q' (f + g) listed (φ a) w
  | 0, listed, a, w, hw, _, h => by rw [Nat.zero_add]; exact hL _ _ _ hw h
  | f + 1, listed, a, w, hw, hk, h => by
    rw [show f + 1 + g = (f + g) + 1 by omega]
    refine ⟨fun h0 => absurd h0 h.1, fun i hi => ?_⟩
    obtain ⟨hin, he⟩ := h.2 i hi
    obtain ⟨hun, o, ho, _⟩ := mem_ready.1 hi
    have hik : i ∉ ks := fun hm => by rw [hk i hm] at hun; cases hun
    have hk' : ∀ k ∈ ks, (listed.setIfInBounds i true).getD k true = true := fun k hm => by
      rw [getD_set_ne true (by rintro rfl; exact hik hm)]; exact hk k hm
    exact wpOp_of_eOpH (hFW w hw) (fun o' ho' => hH i o' hin hik ho') ⟨o, ho⟩ (fun a' d hK => go_none ks hH hF hFW hL f _ a' _ (hF w d hw) hk' hK) (fun a' hK => go_none ks hH hF hFW hL f _ a' w hw hk' hK) he

/-- One alloc is still to come, number k; what is asked behind it is known. -/
theorem go_one {n g k : Nat} {oA : Oper} {obj : Obj} {φ : Act → Act} {Fr : World → Prop} {L : Array Bool → Act → Prop} {Q' : Exit → Act → World → Prop} (ks : List Nat)
    (hH : ∀ j o, j < n → j ∉ ks → j ≠ k → ops[j]? = some o → Harmless ops o φ)
    (hA : ops[k]? = some oA) (hno : oA.after = #[]) (hg : oA.guard = none) (hrun : ∀ (a : Act) (w : World), (execOp a.eval oA).run P w = .ok (.value (.pointer (some ⟨w.heap.size, 0, none⟩))) (w.alloc obj))
    (hwait : Region.waitsFor md ops n k = true)
    (hdone : ∀ listed a, L listed a → ∀ j ∈ Region.ready md ops listed, j = n)
    (hF : ∀ w d, Fr w → Fr (Go.Proofs.Ytakcfcekdngndaa.bw w d)) (hFW : ∀ w, Fr w → ∃ d, w = Go.Proofs.Ytakcfcekdngndaa.bw W d)
    (hnext : ∀ (f : Nat) (listed : Array Bool) (a : Act) (w : World), Fr w → (∀ k' ∈ ks, listed.getD k' true = true) → listed.getD k true = true → headE P md ops W n L f listed a →
      wpAny P md ops Q' (f + g) listed ((φ a).put oA.dst (.pointer (some ⟨w.heap.size, 0, none⟩))) (w.alloc obj)) :
    ∀ (f : Nat) (listed : Array Bool) (a : Act) (w : World), Fr w → (∀ k' ∈ ks, listed.getD k' true = true) → listed.getD k true = false → headE P md ops W n L f (listed.setIfInBounds k true) a →
      wpAny P md ops Q' (f + g + 1) listed (φ a) w := by
  intro f
  have hlt : ∀ listed : Array Bool, listed.getD k true = false → (listed.setIfInBounds k true).getD k true = true := fun listed hk => by
    have hlt : k < listed.size := by
      rcases Nat.lt_or_ge k listed.size with h' | h'
      · exact h'
      · simp [Array.getElem?_eq_none h'] at hk
    simp [hlt]
  have keepks : ∀ (listed : Array Bool) (i : Nat), (∀ k' ∈ ks, listed.getD k' true = true) → listed.getD i true = false → ∀ k' ∈ ks, (listed.setIfInBounds i true).getD k' true = true := fun listed i hks hi k' hm => by
    rw [getD_set_ne true (fun e => by subst e; rw [hks _ hm] at hi; cases hi)]; exact hks k' hm
  have atA : ∀ (f : Nat) (listed : Array Bool) (a : Act) (w : World), Fr w → (∀ k' ∈ ks, listed.getD k' true = true) → listed.getD k true = false → headE P md ops W n L f (listed.setIfInBounds k true) a →
      wpOp P ops Q' k (wpAny P md ops Q' (f + g) (listed.setIfInBounds k true)) (φ a) w := fun f listed a w hw hks hk h => by
    unfold wpOp
    rw [hA]
    simp only [Region.wanted, hg, if_true]
    refine Or.inl ?_
    unfold Oper.wp
    rw [hrun]
    simp only [Oper.upon]
    exact hnext f _ a w hw (keepks listed k hks hk) (hlt listed hk) h
  have rA : ∀ listed : Array Bool, listed.getD k true = false → k ∈ Region.ready md ops listed := fun listed hk => mem_ready.2 ⟨hk, oA, hA, fun e he => by rw [hno] at he; simp at he⟩
  induction f with
  | zero =>
    intro listed a w hw hks hk h
    rw [show 0 + g + 1 = (0 + g) + 1 by omega]
    refine ⟨fun h0 => absurd h0 (List.ne_nil_of_mem (rA listed hk)), fun i hi => ?_⟩
    by_cases hik : i = k
    · subst hik; exact atA 0 listed a w hw hks hk h
    · have hin := hdone _ _ h i (ready_mono hi hik)
      exfalso
      subst hin
      obtain ⟨oj, hoj, e, he, hb, hon⟩ := Region.waitsFor_spec hwait
      obtain ⟨_, o', ho', hall⟩ := mem_ready.1 hi
      have : o' = oj := Option.some.inj (ho'.symm.trans hoj)
      subst this
      have h2 := hall e he hb
      rw [hon, getD_both hk] at h2
      cases h2
  | succ f ih =>
    intro listed a w hw hks hk h
    rw [show f + 1 + g + 1 = (f + g + 1) + 1 by omega]
    refine ⟨fun h0 => absurd h0 (List.ne_nil_of_mem (rA listed hk)), fun i hi => ?_⟩
    by_cases hik : i = k
    · subst hik
      have := atA (f + 1) listed a w hw hks hk h
      rwa [show f + 1 + g = f + g + 1 by omega] at this
    · obtain ⟨hin, he⟩ := h.2 i (ready_mono hi hik)
      obtain ⟨hun, o, ho, _⟩ := mem_ready.1 hi
      have hnks : i ∉ ks := fun hm => by rw [hks i hm] at hun; cases hun
      have hk' : (listed.setIfInBounds i true).getD k true = false := by rw [getD_set_ne true hik]; exact hk
      have step : ∀ a' w', Fr w' → headE P md ops W n L f ((listed.setIfInBounds k true).setIfInBounds i true) a' → wpAny P md ops Q' (f + g + 1) (listed.setIfInBounds i true) (φ a') w' := fun a' w' hw' hK =>
        ih _ a' w' hw' (keepks listed i hks hun) hk' (by rw [← Array.setIfInBounds_comm _ _ hik] at *; exact hK)
      exact wpOp_of_eOpH (hFW w hw) (fun o' ho' => hH i o' hin hnks hik ho') ⟨o, ho⟩ (fun a' d hK => step a' _ (hF w d hw) hK) (fun a' hK => step a' w hw hK) he
end
section
variable {P : Program} {ops : Array Oper} {md : Region.Mode} {W : World}
/-- Two allocs are still to come. -/
theorem go_two {n g k1 k2 : Nat} {oA1 oA2 : Oper} {obj1 obj2 : Obj} {Fr : World → Prop} {L : Array Bool → Act → Prop} {Q' : Exit → Act → World → Prop} (hne : k1 ≠ k2)
    (hA1 : ops[k1]? = some oA1) (hno1 : oA1.after = #[]) (hg1 : oA1.guard = none) (hrun1 : ∀ (a : Act) (w : World), (execOp a.eval oA1).run P w = .ok (.value (.pointer (some ⟨w.heap.size, 0, none⟩))) (w.alloc obj1))
    (hA2 : ops[k2]? = some oA2) (hg2 : oA2.guard = none) (hrun2 : ∀ (a : Act) (w : World), (execOp a.eval oA2).run P w = .ok (.value (.pointer (some ⟨w.heap.size, 0, none⟩))) (w.alloc obj2))
    (hwait : Region.waitsFor md ops n k1 = true)
    (hdone : ∀ listed a, L listed a → ∀ j ∈ Region.ready md ops listed, j = n)
    (hF : ∀ w d, Fr w → Fr (Go.Proofs.Ytakcfcekdngndaa.bw w d)) (hFW : ∀ w, Fr w → ∃ d, w = Go.Proofs.Ytakcfcekdngndaa.bw W d)
    (hnext1 : ∀ (f : Nat) (listed : Array Bool) (a : Act) (w : World), Fr w → listed.getD k1 true = true → listed.getD k2 true = false → headE P md ops W n L f (listed.setIfInBounds k2 true) a →
      wpAny P md ops Q' (f + g + 1) listed (a.put oA1.dst (.pointer (some ⟨w.heap.size, 0, none⟩))) (w.alloc obj1))
    (hnext2 : ∀ (f : Nat) (listed : Array Bool) (a : Act) (w : World), Fr w → listed.getD k2 true = true → listed.getD k1 true = false → headE P md ops W n L f (listed.setIfInBounds k1 true) a →
      wpAny P md ops Q' (f + g + 1) listed (a.put oA2.dst (.pointer (some ⟨w.heap.size, 0, none⟩))) (w.alloc obj2)) :
    ∀ (f : Nat) (listed : Array Bool) (a : Act) (w : World), Fr w → listed.getD k1 true = false → listed.getD k2 true = false → headE P md ops W n L f ((listed.setIfInBounds k1 true).setIfInBounds k2 true) a →
      wpAny P md ops Q' (f + g + 2) listed a w := by
  intro f
  have hlt : ∀ (listed : Array Bool) (k : Nat), listed.getD k true = false → (listed.setIfInBounds k true).getD k true = true := fun listed k hk => by
    have hlt : k < listed.size := by
      rcases Nat.lt_or_ge k listed.size with h' | h'
      · exact h'
      · simp [Array.getElem?_eq_none h'] at hk
    simp [hlt]
  have at1 : ∀ (f : Nat) (listed : Array Bool) (a : Act) (w : World), Fr w → listed.getD k1 true = false → listed.getD k2 true = false → headE P md ops W n L f ((listed.setIfInBounds k1 true).setIfInBounds k2 true) a →
      wpOp P ops Q' k1 (wpAny P md ops Q' (f + g + 1) (listed.setIfInBounds k1 true)) a w := fun f listed a w hw h1 h2 h => by
    unfold wpOp
    rw [hA1]
    simp only [Region.wanted, hg1, if_true]
    refine Or.inl ?_
    unfold Oper.wp
    rw [hrun1]
    simp only [Oper.upon]
    exact hnext1 f _ a w hw (hlt _ _ h1) (by rw [getD_set_ne true hne]; exact h2) h
  have at2 : ∀ (f : Nat) (listed : Array Bool) (a : Act) (w : World), Fr w → listed.getD k1 true = false → listed.getD k2 true = false → headE P md ops W n L f ((listed.setIfInBounds k1 true).setIfInBounds k2 true) a →
      wpOp P ops Q' k2 (wpAny P md ops Q' (f + g + 1) (listed.setIfInBounds k2 true)) a w := fun f listed a w hw h1 h2 h => by
    unfold wpOp
    rw [hA2]
    simp only [Region.wanted, hg2, if_true]
    refine Or.inl ?_
    unfold Oper.wp
    rw [hrun2]
    simp only [Oper.upon]
    refine hnext2 f _ a w hw (hlt _ _ h2) (by rw [getD_set_ne true (Ne.symm hne)]; exact h1) ?_
    rw [Array.setIfInBounds_comm _ _ (Ne.symm hne)]
    exact h
  have rA : ∀ listed : Array Bool, listed.getD k1 true = false → k1 ∈ Region.ready md ops listed := fun listed hk => mem_ready.2 ⟨hk, oA1, hA1, fun e he => by rw [hno1] at he; simp at he⟩
  induction f with
  | zero =>
    intro listed a w hw h1 h2 h
    rw [show 0 + g + 2 = (0 + g + 1) + 1 by omega]
    refine ⟨fun h0 => absurd h0 (List.ne_nil_of_mem (rA listed h1)), fun i hi => ?_⟩
    by_cases hi1 : i = k1
    · subst hi1; exact at1 0 listed a w hw h1 h2 h
    · by_cases hi2 : i = k2
      · subst hi2; exact at2 0 listed a w hw h1 h2 h
      · have hin := hdone _ _ h i (ready_mono (ready_mono hi hi1) hi2)
        exfalso
        subst hin
        obtain ⟨oj, hoj, e, he, hb, hon⟩ := Region.waitsFor_spec hwait
        obtain ⟨_, o', ho', hall⟩ := mem_ready.1 hi
        have : o' = oj := Option.some.inj (ho'.symm.trans hoj)
        subst this
        have h3 := hall e he hb
        rw [hon, getD_both h1] at h3
        cases h3
  | succ f ih =>
    intro listed a w hw h1 h2 h
    rw [show f + 1 + g + 2 = (f + 1 + g + 1) + 1 by omega]
    refine ⟨fun h0 => absurd h0 (List.ne_nil_of_mem (rA listed h1)), fun i hi => ?_⟩
    by_cases hi1 : i = k1
    · subst hi1; exact at1 (f + 1) listed a w hw h1 h2 h
    · by_cases hi2 : i = k2
      · subst hi2; exact at2 (f + 1) listed a w hw h1 h2 h
      · obtain ⟨hin, he⟩ := h.2 i (ready_mono (ready_mono hi hi1) hi2)
        obtain ⟨hun, o, ho, _⟩ := mem_ready.1 hi
        rw [show f + 1 + g + 1 = f + g + 2 by omega]
        have step : ∀ a' w', Fr w' → headE P md ops W n L f (((listed.setIfInBounds k1 true).setIfInBounds k2 true).setIfInBounds i true) a' → wpAny P md ops Q' (f + g + 2) (listed.setIfInBounds i true) a' w' := fun a' w' hw' hK =>
          ih _ a' w' hw' (by rw [getD_set_ne true hi1]; exact h1) (by rw [getD_set_ne true hi2]; exact h2) (by
            rw [Array.setIfInBounds_comm _ _ (Ne.symm hi2), Array.setIfInBounds_comm _ _ (Ne.symm hi1)] at hK
            exact hK)
        exact wpOp_of_eOpH (φ := fun a => a) (hFW w hw) (fun o' _ => Harmless.id ops o') ⟨o, ho⟩ (fun a' d hK => step a' _ (hF w d hw) hK) (fun a' hK => step a' w hw hK) he

def lexA2 (md : Region.Mode) (ops : Array Oper) (g kA kB : Nat) : Nat → Nat → Array Bool → Bool
  | 0, k, listed => Region.seqB md ops g k listed
  | f + 1, k, listed => if k = kA ∨ k = kB then lexA2 md ops g kA kB f (k + 1) listed else (Region.ready md ops listed).contains k && Region.free md ops listed k && lexA2 md ops g kA kB f (k + 1) (listed.setIfInBounds k true)
def skipL2 (kA kB : Nat) : Nat → List Oper → List Oper
  | _, [] => []
  | k, o :: l => if k = kA ∨ k = kB then skipL2 kA kB (k + 1) l else o :: skipL2 kA kB (k + 1) l
theorem headE_lex2 {n g kA kB : Nat} {Lq : Act → Prop} (hsel : Region.noSelect ops = true) (hs : Region.sinkB md ops n = true) (hc : Region.chainB md ops n = true) (hn : n < ops.size) :
    ∀ (l : List Oper) (k : Nat) (listed : Array Bool) (a : Act), (∀ j, j < l.length → l[j]? = ops[k + j]?) → k + l.length = n → HeadInv md ops n listed →
    lexA2 md ops g kA kB l.length k listed = true → wpExt P ops W Lq (skipL2 kA kB k l) a →
    headE P md ops W n (fun listed' a' => Region.seqB md ops g n listed' = true ∧ Lq a') (skipL2 kA kB k l).length listed a
  | [], k, listed, a, _, hk, _, hB, h => by
    obtain rfl : k = n := by simpa using hk
    exact ⟨by simpa [lexA2] using hB, h⟩
  | o :: l, k, listed, a, hl, hk, inv, hB, h => by
    have h0 : ops[k]? = some o := by simpa using (hl 0 (by simp)).symm
    simp only [List.length_cons] at hk
    have hrest : ∀ j, j < l.length → l[j]? = ops[k + 1 + j]? := fun j hj => by have := hl (j + 1) (by simp; omega); simpa [Nat.add_assoc, Nat.add_comm 1 j] using this
    by_cases hkA : k = kA ∨ k = kB
    · simp only [List.length_cons, lexA2, hkA, if_true] at hB
      simp only [skipL2, hkA, if_true] at h ⊢
      exact headE_lex2 hsel hs hc hn l (k + 1) listed a hrest (by omega) inv hB h
    · simp only [List.length_cons, lexA2, hkA, if_false, Bool.and_eq_true] at hB
      simp only [skipL2, hkA, if_false] at h ⊢
      obtain ⟨⟨hr, hf⟩, hB'⟩ := hB
      have hkn : k < n := by omega
      have hr' : k ∈ Region.ready md ops listed := by simpa using hr
      have hst : eOp P ops W k (wpExt P ops W Lq (skipL2 kA kB (k + 1) l)) a := by rw [eOp_some h0]; exact h
      obtain ⟨v, hy, hK⟩ := yieldsE_of h0 hst
      exact headE_first h0 (Region.noSelect_spec hsel) hs hc hn hkn (fun listed' a' hL => seqB_ready hL.1) _ listed a inv (Region.free_spec h0 hf) hr' hy
        (headE_lex2 hsel hs hc hn l (k + 1) _ _ hrest (by omega) (inv.set hr' hkn) hB' hK)

def apartB2 (ops : Array Oper) (n kA kB : Nat) (oA : Oper) : Bool := (List.range n).all fun j => j == kA || j == kB || match ops[j]? with | some o => oA.apart ops o | none => true
def allocB2 (md : Region.Mode) (ops : Array Oper) (n k1 k2 : Nat) : Bool :=
  match ops[k1]?, ops[k2]? with
  | some oA, some oB => Region.noSelect ops && decide (n < ops.size) && decide (k1 < n) && decide (k2 < n) && decide (k1 ≠ k2) && Region.sinkB md ops n && Region.chainB md ops n && Region.waitsFor md ops n k1 && Region.waitsFor md ops n k2 &&
    apartB2 ops n k1 k2 oA && apartB2 ops n k1 k2 oB && oA.after.isEmpty && oA.guard.isNone && oB.after.isEmpty && oB.guard.isNone &&
    decide ((skipL2 k1 k2 0 (ops.toList.take n)).length + 2 = n) && lexA2 md ops (ops.size - n) k1 k2 n 0 (((Array.replicate ops.size false).setIfInBounds k1 true).setIfInBounds k2 true)
  | _, _ => false

/-- A region that draws its order, with two allocs (numbers k1, k2): either may come first. -/
theorem region_bw_alloc2 {id : Nat} {Q : Exit → Act → World → Prop} {a : Act} {w : World} {l : List Oper} (n k1 k2 : Nat) (oA oB : Oper) (obj1 obj2 : Obj) (hm : P.follows .mixedOrders = true) (hB : allocB2 .any l.toArray n k1 k2 = true)
    (hA1 : l[k1]? = some oA) (hA2 : l[k2]? = some oB) (hrun1 : ∀ (a : Act) (w : World), (execOp a.eval oA).run P w = .ok (.value (.pointer (some ⟨w.heap.size, 0, none⟩))) (w.alloc obj1))
    (hrun2 : ∀ (a : Act) (w : World), (execOp a.eval oB).run P w = .ok (.value (.pointer (some ⟨w.heap.size, 0, none⟩))) (w.alloc obj2))
    (h : wpExt P l.toArray w (fun a' =>
      (∀ d1 d2 d3, wpList P l.toArray Q (l.drop n) ((a'.put oA.dst (.pointer (some ⟨(Go.Proofs.Ytakcfcekdngndaa.bw w d1).heap.size, 0, none⟩))).put oB.dst (.pointer (some ⟨(Go.Proofs.Ytakcfcekdngndaa.bw ((Go.Proofs.Ytakcfcekdngndaa.bw w d1).alloc obj1) d2).heap.size, 0, none⟩)))
        (Go.Proofs.Ytakcfcekdngndaa.bw ((Go.Proofs.Ytakcfcekdngndaa.bw ((Go.Proofs.Ytakcfcekdngndaa.bw w d1).alloc obj1) d2).alloc obj2) d3)) ∧
      (∀ d1 d2 d3, wpList P l.toArray Q (l.drop n) ((a'.put oB.dst (.pointer (some ⟨(Go.Proofs.Ytakcfcekdngndaa.bw w d1).heap.size, 0, none⟩))).put oA.dst (.pointer (some ⟨(Go.Proofs.Ytakcfcekdngndaa.bw ((Go.Proofs.Ytakcfcekdngndaa.bw w d1).alloc obj2) d2).heap.size, 0, none⟩)))
        (Go.Proofs.Ytakcfcekdngndaa.bw ((Go.Proofs.Ytakcfcekdngndaa.bw ((Go.Proofs.Ytakcfcekdngndaa.bw w d1).alloc obj2) d2).alloc obj1) d3))) (skipL2 k1 k2 0 (l.take n)) a) : (Code.region id l.toArray true).wp P Q a w := by
  have hA1' : l.toArray[k1]? = some oA := by simpa using hA1
  have hA2' : l.toArray[k2]? = some oB := by simpa using hA2
  unfold allocB2 at hB
  rw [hA1', hA2'] at hB
  simp only [Bool.and_eq_true, decide_eq_true_eq, Array.isEmpty_iff, Option.isNone_iff_eq_none] at hB
  obtain ⟨⟨⟨⟨⟨⟨⟨⟨⟨⟨⟨⟨⟨⟨⟨⟨hsel, hn⟩, hk1⟩, hk2⟩, hne⟩, hs⟩, hc⟩, hw1⟩, hw2⟩, hap1⟩, hap2⟩, hno1⟩, hg1⟩, hno2⟩, hg2⟩, hlen⟩, hlex⟩ := hB
  have hn' : n < l.length := by simpa using hn
  have htl : (l.take n).length = n := by simp; omega
  have hdl : (l.drop n).length = l.toArray.size - n := by simp
  have inv0 : HeadInv .any l.toArray n (((Array.replicate l.toArray.size false).setIfInBounds k1 true).setIfInBounds k2 true) := by
    refine ⟨by simp, fun j oj hj hl => ?_, fun t ht htl' => ?_⟩
    · by_cases hj2 : k2 = j
      · subst hj2
        have : oj = oB := Option.some.inj (hj.symm.trans hA2')
        subst this
        intro e he; rw [hno2] at he; simp at he
      · by_cases hj1 : k1 = j
        · subst hj1
          have : oj = oA := Option.some.inj (hj.symm.trans hA1')
          subst this
          intro e he; rw [hno1] at he; simp at he
        · rw [getD_set_ne false hj2, getD_set_ne false hj1, getD_replicate_false] at hl; cases hl
    · rw [getD_set_ne true (by omega), getD_set_ne true (by omega)]
      exact getD_in (by simpa using htl') (getD_replicate_false _ _)
  have H := headE_lex2 (md := .any) (g := l.toArray.size - n) (kA := k1) (kB := k2) hsel hs hc hn (l.take n) 0 _ a (fun j hj => by
    have hj' : j < n := by rw [htl] at hj; exact hj
    simp [hj']) (by simpa using htl) inv0 (by rw [htl]; exact hlex) h
  have harm : ∀ (oX : Oper) (φ : Act → Act) (u : Value), apartB2 l.toArray n k1 k2 oX = true → (∀ j o, j < n → j ≠ k1 → j ≠ k2 → l.toArray[j]? = some o → Harmless l.toArray o φ) →
      ∀ j o, j < n → j ≠ k1 → j ≠ k2 → l.toArray[j]? = some o → Harmless l.toArray o (fun a => (φ a).put oX.dst u) := fun oX φ u hap hφ j o hj n1 n2 ho => by
    have h1 := List.all_eq_true.1 hap j (List.mem_range.2 hj)
    simp only [Bool.or_eq_true, beq_iff_eq, n1, n2, false_or, ho] at h1
    exact (hφ j o hj n1 n2 ho).put h1 (fun cs b => Region.noSelect_spec hsel j o cs b ho) u
  have hid : ∀ j o, j < n → j ≠ k1 → j ≠ k2 → l.toArray[j]? = some o → Harmless l.toArray o (fun a => a) := fun _ _ _ _ _ _ => Harmless.id _ _
  have hdone : ∀ (Lq : Act → Prop) (listed : Array Bool) (a' : Act), (Region.seqB .any l.toArray (l.toArray.size - n) n listed = true ∧ Lq a') → ∀ j ∈ Region.ready .any l.toArray listed, j = n := fun Lq listed a' hL => by
    obtain ⟨g', hg'⟩ : ∃ g', l.toArray.size - n = g' + 1 := ⟨l.toArray.size - n - 1, by omega⟩
    intro j hj
    have hL1 := hL.1
    rw [hg'] at hL1
    simp only [Region.seqB, Bool.and_eq_true, decide_eq_true_eq] at hL1
    rw [hL1.1] at hj
    simpa using hj
  have tail : ∀ (listed : Array Bool) (a'' : Act) (w' : World), Region.seqB .any l.toArray (l.toArray.size - n) n listed = true → wpList P l.toArray Q (l.drop n) a'' w' → wpAny P .any l.toArray Q (l.toArray.size - n) listed a'' w' := fun listed a'' w' hs' hl' => by
    have := wpAny_of_seq (md := .any) (Q' := Q) (ops := l.toArray) (l.drop n) n listed a'' w' (fun j => by simp [List.getElem?_drop]) (by rw [hdl]; exact hs') hl'
    rwa [hdl] at this
  refine wp_region_any hm ?_
  have := go_two (Q' := Q) (md := .any) (g := l.toArray.size - n) (Fr := fun w' => ∃ d, w' = Go.Proofs.Ytakcfcekdngndaa.bw w d) hne hA1' hno1 hg1 hrun1 hA2' hg2 hrun2 hw1 (hdone _)
    (fun w' d hw' => by obtain ⟨e, rfl⟩ := hw'; exact ⟨_, bw_bw w e d⟩) (fun w' hw' => hw')
    (fun f listed a' w' hw' hl1 hl2 hE => by
      obtain ⟨d1, rfl⟩ := hw'
      exact go_one (φ := fun a => a.put oA.dst (.pointer (some ⟨(Go.Proofs.Ytakcfcekdngndaa.bw w d1).heap.size, 0, none⟩))) (Fr := fun w' => ∃ d, w' = Go.Proofs.Ytakcfcekdngndaa.bw ((Go.Proofs.Ytakcfcekdngndaa.bw w d1).alloc obj1) d) [k1]
        (fun j o hj hks hk ho => harm oA _ _ hap1 hid j o hj (by simpa using hks) hk ho) hA2' hno2 hg2 hrun2 hw2 (hdone _)
        (fun w' d hw' => by obtain ⟨e, rfl⟩ := hw'; exact ⟨_, bw_bw _ e d⟩) (fun w' hw' => by obtain ⟨e, rfl⟩ := hw'; exact bw_of (below_bw ((bw_below w d1).alloc (bw_le w d1) _) (le_al (bw_le w d1))))
        (fun f listed a' w' hw' hks hk hE => by
          obtain ⟨d2, rfl⟩ := hw'
          exact go_none (φ := fun a => (a.put oA.dst (.pointer (some ⟨(Go.Proofs.Ytakcfcekdngndaa.bw w d1).heap.size, 0, none⟩))).put oB.dst (.pointer (some ⟨(Go.Proofs.Ytakcfcekdngndaa.bw ((Go.Proofs.Ytakcfcekdngndaa.bw w d1).alloc obj1) d2).heap.size, 0, none⟩)))
            (Fr := fun w' => ∃ d, w' = Go.Proofs.Ytakcfcekdngndaa.bw ((Go.Proofs.Ytakcfcekdngndaa.bw ((Go.Proofs.Ytakcfcekdngndaa.bw w d1).alloc obj1) d2).alloc obj2) d) [k1, k2]
            (fun j o hj hks ho => harm oB _ _ hap2 (harm oA _ _ hap1 hid) j o hj (fun e => hks (by simp [e])) (fun e => hks (by simp [e])) ho)
            (fun w' d hw' => by obtain ⟨e, rfl⟩ := hw'; exact ⟨_, bw_bw _ e d⟩)
            (fun w' hw' => by obtain ⟨e, rfl⟩ := hw'; exact bw_of (below_bw ((below_bw ((bw_below w d1).alloc (bw_le w d1) _) (le_al (bw_le w d1))).alloc (le_bw (le_al (bw_le w d1))) _) (le_al (le_bw (le_al (bw_le w d1))))))
            (fun listed a'' w' hw' hL => by obtain ⟨d3, rfl⟩ := hw'; exact tail _ _ _ hL.1 (hL.2.1 d1 d2 d3)) f listed a' _ ⟨⟨#[], _⟩, by simp [Go.Proofs.Ytakcfcekdngndaa.bw, World.alloc]; rfl⟩ (by simp only [List.mem_cons, List.not_mem_nil, or_false]; rintro k (rfl | rfl); exact hks _ (by simp); exact hk) hE)
        f listed a' _ ⟨⟨#[], _⟩, by simp [Go.Proofs.Ytakcfcekdngndaa.bw, World.alloc]; rfl⟩ (by simp only [List.mem_cons, List.not_mem_nil, or_false]; rintro k rfl; exact hl1) hl2 hE)
    (fun f listed a' w' hw' hl2 hl1 hE => by
      obtain ⟨d1, rfl⟩ := hw'
      exact go_one (φ := fun a => a.put oB.dst (.pointer (some ⟨(Go.Proofs.Ytakcfcekdngndaa.bw w d1).heap.size, 0, none⟩))) (Fr := fun w' => ∃ d, w' = Go.Proofs.Ytakcfcekdngndaa.bw ((Go.Proofs.Ytakcfcekdngndaa.bw w d1).alloc obj2) d) [k2]
        (fun j o hj hks hk ho => harm oB _ _ hap2 hid j o hj hk (by simpa using hks) ho) hA1' hno1 hg1 hrun1 hw1 (hdone _)
        (fun w' d hw' => by obtain ⟨e, rfl⟩ := hw'; exact ⟨_, bw_bw _ e d⟩) (fun w' hw' => by obtain ⟨e, rfl⟩ := hw'; exact bw_of (below_bw ((bw_below w d1).alloc (bw_le w d1) _) (le_al (bw_le w d1))))
        (fun f listed a' w' hw' hks hk hE => by
          obtain ⟨d2, rfl⟩ := hw'
          exact go_none (φ := fun a => (a.put oB.dst (.pointer (some ⟨(Go.Proofs.Ytakcfcekdngndaa.bw w d1).heap.size, 0, none⟩))).put oA.dst (.pointer (some ⟨(Go.Proofs.Ytakcfcekdngndaa.bw ((Go.Proofs.Ytakcfcekdngndaa.bw w d1).alloc obj2) d2).heap.size, 0, none⟩)))
            (Fr := fun w' => ∃ d, w' = Go.Proofs.Ytakcfcekdngndaa.bw ((Go.Proofs.Ytakcfcekdngndaa.bw ((Go.Proofs.Ytakcfcekdngndaa.bw w d1).alloc obj2) d2).alloc obj1) d) [k1, k2]
            (fun j o hj hks ho => harm oA _ _ hap1 (harm oB _ _ hap2 hid) j o hj (fun e => hks (by simp [e])) (fun e => hks (by simp [e])) ho)
            (fun w' d hw' => by obtain ⟨e, rfl⟩ := hw'; exact ⟨_, bw_bw _ e d⟩)
            (fun w' hw' => by obtain ⟨e, rfl⟩ := hw'; exact bw_of (below_bw ((below_bw ((bw_below w d1).alloc (bw_le w d1) _) (le_al (bw_le w d1))).alloc (le_bw (le_al (bw_le w d1))) _) (le_al (le_bw (le_al (bw_le w d1))))))
            (fun listed a'' w' hw' hL => by obtain ⟨d3, rfl⟩ := hw'; exact tail _ _ _ hL.1 (hL.2.2 d1 d2 d3)) f listed a' _ ⟨⟨#[], _⟩, by simp [Go.Proofs.Ytakcfcekdngndaa.bw, World.alloc]; rfl⟩ (by simp only [List.mem_cons, List.not_mem_nil, or_false]; rintro k (rfl | rfl); exact hk; exact hks _ (by simp)) hE)
        f listed a' _ ⟨⟨#[], _⟩, by simp [Go.Proofs.Ytakcfcekdngndaa.bw, World.alloc]; rfl⟩ (by simp only [List.mem_cons, List.not_mem_nil, or_false]; rintro k rfl; exact hl2) hl1 hE)
    _ (Array.replicate l.toArray.size false) a { w with drawn := w.drawn + 1 } ⟨_, bw_drewExt w⟩ (by simp [show k1 < l.length by omega]) (by simp [show k2 < l.length by omega]) H
  rw [show (skipL2 k1 k2 0 (l.take n)).length + (l.toArray.size - n) + 2 = l.toArray.size by have : (skipL2 k1 k2 0 (l.take n)).length + 2 = n := hlen; omega] at this
  exact this
end
theorem lay_self (w : World) (L : List (Obj ⊕ Ext)) : ∃ d, lay w L = lay w (.inr d :: L) := ⟨⟨#[], (lay w L).drawn⟩, by show lay w L = bw (lay w L) _; simp [bw]⟩
end Go.Proofs.Ytakcfcekdngndaa
/- Regions that draw their order, in general: quiet operations in any order beside operations that change the world. A schedule says of each operation, in the text's order: 0: quiet (its value is the same in all worlds of a class, and it only adds to the world); 1: it alone may come now; 2: it and the next one may come now, in either order. No program in sight. -/
namespace Go.Proofs.Ytakcfcekdngndaa
open Go.RowKit

def mUpon {κ : Type} (P : Program) (Cl : κ → World) (k : κ) (v : Value) : Result Next → Prop
  | .ok (.value u) w' => w' = Cl k ∧ u = v
  | .ok .skip w' => w' = Cl k ∧ v = undef
  | .ok (.enter f args) w' => w' = Cl k ∧ Calls P f args (Cl k) (fun e w'' => e = .returned v ∧ ∃ d, w'' = bw (Cl k) d)
  | _ => False
def mOp {κ : Type} (P : Program) (Cl : κ → World) (o : Oper) (a : Act) (next : Act → Prop) : Prop := ∃ v, (∀ k, mUpon P Cl k v ((execOp a.eval o).run P (Cl k))) ∧ next (a.put o.dst v)
def sUpon (P : Program) (K : Act → World → Prop) (a : Act) (dst : Option Tmp) : Result Next → Prop
  | .ok (.value u) w' => K (a.put dst u) w'
  | .ok .skip w' => K (a.put dst undef) w'
  | .ok (.enter f args) w' => Calls P f args w' (fun e w'' => ∃ v, e = .returned v ∧ K (a.put dst v) w'')
  | _ => False
def sOp (P : Program) (o : Oper) (a : Act) (K : Act → World → Prop) (w : World) : Prop := sUpon P K a o.dst ((execOp a.eval o).run P w)
attribute [go_sem] mUpon mOp sUpon sOp

section
variable {P : Program} {ops : Array Oper} {md : Region.Mode} {κ : Type} {Cl : κ → World}

def oneOp (P : Program) (ops : Array Oper) (i : Nat) (K : Act → World → Prop) (a : Act) (w : World) : Prop :=
  match ops[i]? with
  | none => K a w
  | some o => if Region.wanted o (yielded ops a.tmps) then sOp P o a K w else K (a.put o.dst undef) w
theorem oneOp_some {i : Nat} {o : Oper} {K : Act → World → Prop} {a : Act} {w : World} (hi : ops[i]? = some o) :
    oneOp P ops i K a w = if Region.wanted o (yielded ops a.tmps) then sOp P o a K w else K (a.put o.dst undef) w := by unfold oneOp; rw [hi]
theorem sOp_mono {o : Oper} {K K' : Act → World → Prop} {a : Act} {w : World} (h : ∀ a w, K a w → K' a w) (hh : sOp P o a K w) : sOp P o a K' w := by
  unfold sOp at *
  generalize (execOp a.eval o).run P w = r at *
  cases r with
  | ok nx w' =>
    cases nx <;> simp only [sUpon] at hh ⊢
    case value x => exact h _ _ hh
    case skip => exact h _ _ hh
    case enter f args => exact hh.mono fun e w'' ⟨v, he, hk⟩ => ⟨v, he, h _ _ hk⟩
  | halt x w' => simp only [sUpon] at hh
theorem oneOp_mono {i : Nat} {K K' : Act → World → Prop} {a : Act} {w : World} (h : ∀ a w, K a w → K' a w) (hh : oneOp P ops i K a w) : oneOp P ops i K' a w := by
  unfold oneOp at *
  split
  · rename_i ho; simp only [ho] at hh; exact h _ _ hh
  · rename_i o ho
    simp only [ho] at hh
    split
    · rename_i hw; rw [if_pos hw] at hh; exact sOp_mono h hh
    · rename_i hw; rw [if_neg hw] at hh; exact h _ _ hh
theorem wp_of_sOp {o : Oper} {K : Act → World → Prop} {Q' : Exit → Act → World → Prop} {a : Act} {w : World} (hh : sOp P o a K w) : o.wp P a w K Q' := by
  unfold sOp at hh
  unfold Oper.wp
  generalize (execOp a.eval o).run P w = r at *
  cases r with
  | ok nx w' =>
    cases nx <;> simp only [sUpon] at hh <;> simp only [Oper.upon]
    case value x => exact hh
    case skip => exact hh
    case enter f args => exact hh.mono fun e w'' ⟨v, he, hk⟩ => by subst he; exact hk
  | halt x w' => simp only [sUpon] at hh

def wpC (P : Program) (md : Region.Mode) (ops : Array Oper) (Cl : κ → World) (Q : Act → World → Prop) : Nat → Array Bool → Act → World → Prop
  | 0, listed, a, w => Region.ready md ops listed = [] ∧ ∀ d, Q a (bw w d)
  | f + 1, listed, a, w => Region.ready md ops listed ≠ [] ∧ ∀ i ∈ Region.ready md ops listed, ∀ d, oneOp P ops i (fun a' w' => (∃ k, w' = Cl k) ∧ wpC P md ops Cl Q f (listed.setIfInBounds i true) a' w') a (bw w d)
def noExt (w : World) : Ext := ⟨#[], w.drawn⟩
theorem bw_noExt (w : World) : bw w (noExt w) = w := by
  show ({ w with heap := w.heap ++ #[], drawn := w.drawn } : World) = w
  rw [Array.append_empty]
theorem wpC_ext {Q : Act → World → Prop} : ∀ {f : Nat} {listed : Array Bool} {a : Act} {w : World} (d : Ext), wpC P md ops Cl Q f listed a w → wpC P md ops Cl Q f listed a (bw w d)
  | 0, _, _, w, d, h => ⟨h.1, fun e => by rw [bw_bw]; exact h.2 _⟩
  | _ + 1, _, _, w, d, h => ⟨h.1, fun i hi e => by rw [bw_bw]; exact h.2 i hi _⟩
theorem wpC_sound {Q' : Exit → Act → World → Prop} : ∀ (f : Nat) (listed : Array Bool) (a : Act) (w : World), wpC P md ops Cl (fun a w => Q' .normal a w) f listed a w → wpAny P md ops Q' f listed a w
  | 0, listed, a, w, h => ⟨h.1, by have := h.2 (noExt w); rwa [bw_noExt] at this⟩
  | f + 1, listed, a, w, h => by
    refine ⟨fun h0 => absurd h0 h.1, fun i hi => ?_⟩
    have h1 := h.2 i hi (noExt w)
    rw [bw_noExt] at h1
    unfold oneOp at h1
    unfold wpOp
    split
    · rename_i ho; simp only [ho] at h1; exact wpC_sound f _ _ _ h1.2
    · rename_i o ho
      simp only [ho] at h1
      split
      · rename_i hw; rw [if_pos hw] at h1
        exact Or.inl (wp_of_sOp (sOp_mono (fun a w hk => wpC_sound f _ a w hk.2) h1))
      · rename_i hw; rw [if_neg hw] at h1; exact wpC_sound f _ _ _ h1.2

/-- In state a the operation yields v, in every world of the class. -/
def YieldsM (P : Program) (ops : Array Oper) (Cl : κ → World) (o : Oper) (v : Value) (a : Act) : Prop :=
  (Region.wanted o (yielded ops a.tmps) = true ∧ ∀ k, mUpon P Cl k v ((execOp a.eval o).run P (Cl k))) ∨ (Region.wanted o (yielded ops a.tmps) = false ∧ v = undef)
theorem YieldsM.oneOp {i : Nat} {o : Oper} {v : Value} {a : Act} {w : World} (hi : ops[i]? = some o) (hy : YieldsM P ops Cl o v a) (hw : ∃ k, w = Cl k) {K : Act → World → Prop}
    (h0 : K (a.put o.dst v) w) (h : ∀ d, K (a.put o.dst v) (bw w d)) : Go.Proofs.Ytakcfcekdngndaa.oneOp P ops i K a w := by
  rw [oneOp_some hi]
  rcases hy with ⟨hw1, hv⟩ | ⟨hw1, rfl⟩
  · rw [if_pos hw1]
    obtain ⟨k, rfl⟩ := hw
    have h3 := hv k
    unfold sOp
    generalize (execOp a.eval o).run P (Cl k) = r at *
    cases r with
    | ok nx w' =>
      cases nx <;> simp only [mUpon] at h3 <;> simp only [sUpon]
      case value x => obtain ⟨e1, e2⟩ := h3; rw [e1, e2]; exact h0
      case skip => obtain ⟨e1, e2⟩ := h3; rw [e1, ← e2]; exact h0
      case enter f args =>
        obtain ⟨e1, hc⟩ := h3
        rw [e1]
        exact hc.mono fun e w'' ⟨he, d, hd⟩ => ⟨v, he, by rw [hd]; exact h d⟩
    | halt x w' => simp only [mUpon] at h3
  · rw [if_neg (by rw [hw1]; exact Bool.false_ne_true)]; exact h0
theorem YieldsM.keep {oi oj : Oper} {v : Value} {a : Act} (hsi : ∀ cs b, oi.op ≠ .select cs b) (h3 : ∀ d, oj.dst = some d → d ∉ oi.looksAt ops) (hy : YieldsM P ops Cl oi v a) (u : Value) : YieldsM P ops Cl oi v (a.put oj.dst u) := by
  unfold YieldsM at *
  rw [execOp_put oi hsi a oj.dst u h3, wanted_put oi a oj.dst u h3]
  exact hy
theorem oneOp_put {j : Nat} {oi oj : Oper} {v : Value} {w : World} (hj : ops[j]? = some oj) (hap : oi.apart ops oj = true)
    (hsi : ∀ cs b, oi.op ≠ .select cs b) (hsj : ∀ cs b, oj.op ≠ .select cs b) {K : Act → World → Prop} {a : Act}
    (hy : YieldsM P ops Cl oi v a) (h : oneOp P ops j K (a.put oi.dst v) w) :
    oneOp P ops j (fun a' w' => YieldsM P ops Cl oi v a' ∧ K (a'.put oi.dst v) w') a w := by
  obtain ⟨h1, h2, h3⟩ := Oper.apart_spec hap
  rw [oneOp_some hj, wanted_put oj a oi.dst v h1] at h
  rw [oneOp_some hj]
  split
  · rename_i hw
    rw [if_pos hw] at h
    unfold sOp at *
    rw [execOp_put oj hsj a oi.dst v h1] at h
    generalize (execOp a.eval oj).run P w = r at *
    cases r with
    | ok nx w' =>
      cases nx <;> simp only [sUpon] at h ⊢
      case value x => exact ⟨hy.keep hsi h3 _, by rw [← Act.put_comm a v x h2]; exact h⟩
      case skip => exact ⟨hy.keep hsi h3 _, by rw [← Act.put_comm a v undef h2]; exact h⟩
      case enter f args => exact h.mono fun e w'' ⟨u, he, hk⟩ => ⟨u, he, hy.keep hsi h3 _, by rw [← Act.put_comm a v u h2]; exact hk⟩
    | halt x w' => simp only [sUpon] at h
  · rename_i hw
    rw [if_neg hw] at h
    exact ⟨hy.keep hsi h3 _, by rw [← Act.put_comm a v undef h2]; exact h⟩

theorem wpC_first {i : Nat} {oi : Oper} {v : Value} {Q : Act → World → Prop} (hCl : ∀ k d, ∃ k', bw (Cl k) d = Cl k') (hi : ops[i]? = some oi) (hsel : ∀ (j : Nat) (o : Oper) cs b, ops[j]? = some o → o.op ≠ .select cs b) :
    ∀ (f : Nat) (listed : Array Bool) (a : Act) (w : World), (∃ k, w = Cl k) →
      (∀ j oj, ops[j]? = some oj → j ≠ i → listed.getD j true = false → (∀ e ∈ oj.after, Region.binds md e = true → e.on ≠ i) → oi.apart ops oj = true) →
      i ∈ Region.ready md ops listed → YieldsM P ops Cl oi v a →
      wpC P md ops Cl Q f (listed.setIfInBounds i true) (a.put oi.dst v) w → wpC P md ops Cl Q (f + 1) listed a w := by
  have cl : ∀ w d, (∃ k, w = Cl k) → ∃ k, bw w d = Cl k := fun w d ⟨k, hk⟩ => by rw [hk]; exact hCl k d
  intro f
  induction f with
  | zero =>
    intro listed a w hw _ hr hy H
    refine ⟨List.ne_nil_of_mem hr, fun j hj d => ?_⟩
    by_cases hji : j = i
    · subst hji
      exact hy.oneOp hi (cl w d hw) ⟨cl w d hw, wpC_ext d H⟩ (fun e => ⟨cl _ e (cl w d hw), wpC_ext e (wpC_ext d H)⟩)
    · have := ready_mono hj hji
      rw [H.1] at this; cases this
  | succ f ih =>
    intro listed a w hw hfree hr hy H
    have hun := (mem_ready.1 hr).1
    refine ⟨List.ne_nil_of_mem hr, fun j hj d => ?_⟩
    by_cases hji : j = i
    · subst hji
      exact hy.oneOp hi (cl w d hw) ⟨cl w d hw, wpC_ext d H⟩ (fun e => ⟨cl _ e (cl w d hw), wpC_ext e (wpC_ext d H)⟩)
    · have h1 := H.2 j (ready_mono hj hji) d
      obtain ⟨hjun, oj, hoj, hall⟩ := mem_ready.1 hj
      have hnot : ∀ e ∈ oj.after, Region.binds md e = true → e.on ≠ i := fun e he hb heq => by
        have h2 := hall e he hb
        have h3 : listed.getD i false = false := by
          rcases Nat.lt_or_ge i listed.size with h' | h'
          · simp [h'] at hun ⊢; exact hun
          · simp [Array.getElem?_eq_none h'] at hun
        rw [heq, h3] at h2
        cases h2
      have h2 := oneOp_put hoj (hfree j oj hoj hji hjun hnot) (fun cs b => hsel i oi cs b hi) (fun cs b => hsel j oj cs b hoj) hy h1
      have hfree' : ∀ k ok, ops[k]? = some ok → k ≠ i → (listed.setIfInBounds j true).getD k true = false →
          (∀ e ∈ ok.after, Region.binds md e = true → e.on ≠ i) → oi.apart ops ok = true := fun k ok hk hki hu hno => by
        refine hfree k ok hk hki ?_ hno
        by_cases hjk : j = k
        · subst hjk; exact hjun
        · rw [getD_set_ne true hjk] at hu; exact hu
      refine oneOp_mono (fun a' w' h3 => ⟨h3.2.1, ih (listed.setIfInBounds j true) a' w' h3.2.1 hfree' (ready_mono hr (Ne.symm hji)) h3.1 ?_⟩) h2
      rw [Array.setIfInBounds_comm _ _ hji]
      exact h3.2.2

/-- The walk by a schedule. -/
def wpM (P : Program) (ops : Array Oper) (Cl : κ → World) (Q : Act → World → Prop) : List Nat → List Oper → Act → World → Prop
  | 0 :: s, o :: l, a, w => if Region.wanted o (yielded ops a.tmps) then mOp P Cl o a (fun a' => wpM P ops Cl Q s l a' w) else wpM P ops Cl Q s l (a.put o.dst undef) w
  | 1 :: s, o :: l, a, w => ∀ d, if Region.wanted o (yielded ops a.tmps) then sOp P o a (fun a' w' => (∃ k, w' = Cl k) ∧ wpM P ops Cl Q s l a' w') (bw w d) else (∃ k, bw w d = Cl k) ∧ wpM P ops Cl Q s l (a.put o.dst undef) (bw w d)
  | 2 :: s, o1 :: o2 :: l, a, w =>
    (∀ d, sOp P o1 a (fun a' w' => (∃ k, w' = Cl k) ∧ ∀ d', sOp P o2 a' (fun a'' w'' => (∃ k, w'' = Cl k) ∧ wpM P ops Cl Q s l a'' w'') (bw w' d')) (bw w d)) ∧
    (∀ d, sOp P o2 a (fun a' w' => (∃ k, w' = Cl k) ∧ ∀ d', sOp P o1 a' (fun a'' w'' => (∃ k, w'' = Cl k) ∧ wpM P ops Cl Q s l a'' w'') (bw w' d')) (bw w d))
  | _, [], a, w => ∀ d, Q a (bw w d)
  | _, _, _, _ => False
def lexM (md : Region.Mode) (ops : Array Oper) : List Nat → Nat → Array Bool → Bool
  | [], k, listed => decide (k = ops.size) && (Region.ready md ops listed).isEmpty
  | 0 :: s, k, listed => decide (k < ops.size) && (Region.ready md ops listed).contains k && Region.free md ops listed k && lexM md ops s (k + 1) (listed.setIfInBounds k true)
  | 1 :: s, k, listed => decide (k < ops.size) && decide (Region.ready md ops listed = [k]) && lexM md ops s (k + 1) (listed.setIfInBounds k true)
  | 2 :: s, k, listed => decide (k + 1 < ops.size) && decide (Region.ready md ops listed = [k, k + 1]) && decide (Region.ready md ops (listed.setIfInBounds k true) = [k + 1]) && decide (Region.ready md ops (listed.setIfInBounds (k + 1) true) = [k]) &&
    (match ops[k]?, ops[k + 1]? with | some o1, some o2 => o1.guard.isNone && o2.guard.isNone | _, _ => false) && lexM md ops s (k + 2) ((listed.setIfInBounds k true).setIfInBounds (k + 1) true)
  | _, _, _ => false

theorem wpC_of_wpM {Q : Act → World → Prop} (hCl : ∀ k d, ∃ k', bw (Cl k) d = Cl k') (hsel : Region.noSelect ops = true) :
    ∀ (s : List Nat) (l : List Oper) (k : Nat) (listed : Array Bool) (a : Act) (w : World), (∀ j, l[j]? = ops[k + j]?) → (∃ k, w = Cl k) → lexM md ops s k listed = true →
    wpM P ops Cl Q s l a w → wpC P md ops Cl Q l.length listed a w
  | [], l, k, listed, a, w, hl, hw, hB, h => by
    simp only [lexM, Bool.and_eq_true, decide_eq_true_eq, List.isEmpty_iff] at hB
    have : l = [] := by
      cases l with
      | nil => rfl
      | cons o l => have := hl 0; rw [Nat.add_zero, hB.1, Array.getElem?_eq_none (Nat.le_refl _)] at this; simp at this
    subst this
    exact ⟨hB.2, h⟩
  | 0 :: s, l, k, listed, a, w, hl, hw, hB, h => by
    simp only [lexM, Bool.and_eq_true, decide_eq_true_eq] at hB
    obtain ⟨⟨⟨hk, hr⟩, hf⟩, hB'⟩ := hB
    cases l with
    | nil => have := hl 0; rw [Nat.add_zero, Array.getElem?_eq_getElem hk] at this; simp at this
    | cons o l =>
      have h0 : ops[k]? = some o := by simpa using (hl 0).symm
      have hr' : k ∈ Region.ready md ops listed := by simpa using hr
      have hy : ∃ v, YieldsM P ops Cl o v a ∧ wpM P ops Cl Q s l (a.put o.dst v) w := by
        simp only [wpM] at h
        by_cases hw1 : Region.wanted o (yielded ops a.tmps) = true
        · rw [if_pos hw1] at h
          obtain ⟨v, h1, h2⟩ := h
          exact ⟨v, .inl ⟨hw1, h1⟩, h2⟩
        · rw [if_neg hw1] at h
          exact ⟨undef, .inr ⟨by simpa using hw1, rfl⟩, h⟩
      obtain ⟨v, hy, hK⟩ := hy
      exact wpC_first hCl h0 (Region.noSelect_spec hsel) l.length listed a w hw (Region.free_spec h0 hf) hr' hy
        (wpC_of_wpM hCl hsel s l (k + 1) _ _ w (fun j => by have := hl (j + 1); simpa [Nat.add_assoc, Nat.add_comm 1 j] using this) hw hB' hK)
  | 1 :: s, l, k, listed, a, w, hl, hw, hB, h => by
    simp only [lexM, Bool.and_eq_true, decide_eq_true_eq] at hB
    obtain ⟨⟨hk, hr⟩, hB'⟩ := hB
    cases l with
    | nil => have := hl 0; rw [Nat.add_zero, Array.getElem?_eq_getElem hk] at this; simp at this
    | cons o l =>
      have h0 : ops[k]? = some o := by simpa using (hl 0).symm
      have hl' : ∀ j, l[j]? = ops[k + 1 + j]? := fun j => by have := hl (j + 1); simpa [Nat.add_assoc, Nat.add_comm 1 j] using this
      refine ⟨by rw [hr]; simp, fun i hi d => ?_⟩
      rw [hr] at hi
      obtain rfl : i = k := by simpa using hi
      simp only [wpM] at h
      have hd := h d
      rw [oneOp_some h0]
      split
      · rename_i hw1; rw [if_pos hw1] at hd
        exact sOp_mono (fun a' w' hk => ⟨hk.1, wpC_of_wpM hCl hsel s l (i + 1) _ _ w' hl' hk.1 hB' hk.2⟩) hd
      · rename_i hw1; rw [if_neg hw1] at hd
        exact ⟨hd.1, wpC_of_wpM hCl hsel s l (i + 1) _ _ _ hl' hd.1 hB' hd.2⟩
  | 2 :: s, l, k, listed, a, w, hl, hw, hB, h => by
    simp only [lexM, Bool.and_eq_true, decide_eq_true_eq] at hB
    obtain ⟨⟨⟨⟨⟨hk, hr⟩, hr1⟩, hr2⟩, hg⟩, hB'⟩ := hB
    match l with
    | [] => have := hl 0; rw [Nat.add_zero, Array.getElem?_eq_getElem (by omega)] at this; simp at this
    | [o] => have := hl 1; rw [Array.getElem?_eq_getElem hk] at this; simp at this
    | o1 :: o2 :: l =>
      have h1 : ops[k]? = some o1 := by simpa using (hl 0).symm
      have h2 : ops[k + 1]? = some o2 := by simpa using (hl 1).symm
      have hl' : ∀ j, l[j]? = ops[k + 2 + j]? := fun j => by have := hl (j + 2); simpa [Nat.add_assoc, Nat.add_comm 2 j] using this
      rw [h1, h2] at hg
      simp only [Bool.and_eq_true, Option.isNone_iff_eq_none] at hg
      have wa : ∀ a, Region.wanted o1 (yielded ops a) = true := fun a => by simp [Region.wanted, hg.1]
      have wb : ∀ a, Region.wanted o2 (yielded ops a) = true := fun a => by simp [Region.wanted, hg.2]
      simp only [wpM] at h
      refine ⟨by rw [hr]; simp, fun i hi d => ?_⟩
      rw [hr] at hi
      simp only [List.mem_cons, List.not_mem_nil, or_false] at hi
      rcases hi with rfl | rfl
      · rw [oneOp_some h1, if_pos (wa _)]
        refine sOp_mono (fun a' w' hk => ⟨hk.1, by rw [hr1]; simp, fun j hj e => ?_⟩) (h.1 d)
        rw [hr1] at hj
        obtain rfl : j = i + 1 := by simpa using hj
        rw [oneOp_some h2, if_pos (wb _)]
        exact sOp_mono (fun a'' w'' hk' => ⟨hk'.1, wpC_of_wpM hCl hsel s l (i + 2) _ _ w'' hl' hk'.1 hB' hk'.2⟩) (hk.2 e)
      · rw [oneOp_some h2, if_pos (wb _)]
        refine sOp_mono (fun a' w' hq => ⟨hq.1, by rw [hr2]; simp, fun j hj e => ?_⟩) (h.2 d)
        rw [hr2] at hj
        obtain rfl : j = k := by simpa using hj
        rw [oneOp_some h1, if_pos (wa _)]
        refine sOp_mono (fun a'' w'' hk' => ⟨hk'.1, wpC_of_wpM hCl hsel s l (j + 2) _ _ w'' hl' hk'.1 ?_ hk'.2⟩) (hq.2 e)
        rw [Array.setIfInBounds_comm _ _ (by omega)]; exact hB'
  | (_ + 3) :: _, _, _, _, _, _, _, _, hB, _ => by simp [lexM] at hB

/-- A region that draws its order, by a schedule. -/
theorem region_mix {id : Nat} {Q : Exit → Act → World → Prop} {a : Act} {w : World} {l : List Oper} (s : List Nat) (Cl : κ → World) (hm : P.follows .mixedOrders = true) (hsel : Region.noSelect l.toArray = true)
    (hB : lexM .any l.toArray s 0 (Array.replicate l.toArray.size false) = true) (hCl : ∀ k d, ∃ k', bw (Cl k) d = Cl k') (hw : ∃ k, w = Cl k)
    (h : wpM P l.toArray Cl (fun a w => Q .normal a w) s l a w) : (Code.region id l.toArray true).wp P Q a w := by
  refine wp_region_any hm ?_
  have := wpC_of_wpM (md := .any) hCl hsel s l 0 _ a w (fun j => by simp) hw hB h
  have := wpC_ext (⟨#[], w.drawn + 1⟩ : Ext) this
  rw [← bw_drewExt] at this
  have := wpC_sound (Q' := Q) _ _ _ _ this
  simpa using this
/-- The usual class: worlds that extend this one. -/
theorem region_mixW {id : Nat} {Q : Exit → Act → World → Prop} {a : Act} {w : World} {l : List Oper} (s : List Nat) (hm : P.follows .mixedOrders = true) (hsel : Region.noSelect l.toArray = true)
    (hB : lexM .any l.toArray s 0 (Array.replicate l.toArray.size false) = true)
    (h : wpM P l.toArray (fun d => bw w d) (fun a w => Q .normal a w) s l a w) : (Code.region id l.toArray true).wp P Q a w :=
  region_mix s (fun d => bw w d) hm hsel hB (fun k d => ⟨_, bw_bw w k d⟩) ⟨noExt w, (bw_noExt w).symm⟩ h

theorem wpM_quiet {Q : Act → World → Prop} {a : Act} {w : World} {o : Oper} {l : List Oper} {s : List Nat}
    (h : ∀ K : Act → Prop, (∀ a, wpM P ops Cl Q s l a w → K a) → if Region.wanted o (yielded ops a.tmps) then mOp P Cl o a K else K (a.put o.dst undef)) : wpM P ops Cl Q (0 :: s) (o :: l) a w :=
  h _ (fun _ h => h)
theorem wpM_special {Q : Act → World → Prop} {a : Act} {w : World} {o : Oper} {l : List Oper} {s : List Nat}
    (h : ∀ (K : Act → World → Prop), (∀ a' w', (∃ k, w' = Cl k) → wpM P ops Cl Q s l a' w' → K a' w') → ∀ d, if Region.wanted o (yielded ops a.tmps) then sOp P o a K (bw w d) else K (a.put o.dst undef) (bw w d)) : wpM P ops Cl Q (1 :: s) (o :: l) a w := fun d => by
  have := h (fun a' w' => (∃ k, w' = Cl k) ∧ wpM P ops Cl Q s l a' w') (fun _ _ h1 h2 => ⟨h1, h2⟩) d
  split
  · rename_i hw; rw [if_pos hw] at this; exact this
  · rename_i hw; rw [if_neg hw] at this; exact this
theorem wpM_two {Q : Act → World → Prop} {a : Act} {w : World} {o1 o2 : Oper} {l : List Oper} {s : List Nat}
    (h1 : ∀ (J : Act → World → Prop), (∀ a' w', (∃ k, w' = Cl k) → (∀ (K : Act → World → Prop), (∀ a'' w'', (∃ k, w'' = Cl k) → wpM P ops Cl Q s l a'' w'' → K a'' w'') → ∀ d, sOp P o2 a' K (bw w' d)) → J a' w') → ∀ d, sOp P o1 a J (bw w d))
    (h2 : ∀ (J : Act → World → Prop), (∀ a' w', (∃ k, w' = Cl k) → (∀ (K : Act → World → Prop), (∀ a'' w'', (∃ k, w'' = Cl k) → wpM P ops Cl Q s l a'' w'' → K a'' w'') → ∀ d, sOp P o1 a' K (bw w' d)) → J a' w') → ∀ d, sOp P o2 a J (bw w d)) :
    wpM P ops Cl Q (2 :: s) (o1 :: o2 :: l) a w :=
  ⟨h1 _ fun _ _ hc hk => ⟨hc, fun d => hk _ (fun _ _ c h => ⟨c, h⟩) d⟩, h2 _ fun _ _ hc hk => ⟨hc, fun d => hk _ (fun _ _ c h => ⟨c, h⟩) d⟩⟩
theorem wpM_nil {Q : Act → World → Prop} {a : Act} {w : World} (h : ∀ d, Q a (bw w d)) : wpM P ops Cl Q [] [] a w := h
end
theorem lay_append (w : World) (L : List (Obj ⊕ Ext)) : ∀ L1, lay w (L1 ++ L) = lay (lay w L) L1
  | [] => rfl
  | .inl o :: L1 => by show (lay w (L1 ++ L)).alloc o = (lay (lay w L) L1).alloc o; rw [lay_append w L L1]
  | .inr d :: L1 => by show bw (lay w (L1 ++ L)) d = bw (lay (lay w L) L1) d; rw [lay_append w L L1]
theorem lay_fold (w : World) (L1 L : List (Obj ⊕ Ext)) : ∃ e, lay w (L1 ++ L) = lay w (.inr e :: L) := by
  obtain ⟨e, he⟩ := lay_ex (lay w L) L1
  exact ⟨e, (lay_append w L L1).trans he⟩
theorem lay_all (w : World) (L : List (Obj ⊕ Ext)) : ∃ e, lay w L = lay w [.inr e] := by
  obtain ⟨e, he⟩ := lay_ex w L
  exact ⟨e, he⟩
/-- Whatever lies behind a world that is laid out is in its class. -/
theorem lay_in (w : World) (L1 L : List (Obj ⊕ Ext)) : ∃ d, lay w (L1 ++ L) = bw (lay w L) d := by
  induction L1 with
  | nil => exact ⟨noExt _, (bw_noExt _).symm⟩
  | cons x L1 ih =>
    obtain ⟨d, hd⟩ := ih
    cases x with
    | inl o =>
      obtain ⟨e, he⟩ := bw_of ((bw_below (lay w L) d).alloc (bw_le _ d) o)
      exact ⟨e, by show (lay w (L1 ++ L)).alloc o = _; rw [hd]; exact he⟩
    | inr e => exact ⟨_, by show bw (lay w (L1 ++ L)) e = _; rw [hd]; exact bw_bw _ _ _⟩
end Go.Proofs.Ytakcfcekdngndaa
/- Regions that draw their order, by a schedule, with a tail behind it: the last operations follow in the text's order, and may do to the world what they will. No program in sight. -/
namespace Go.Proofs.Ytakcfcekdngndaa
open Go.RowKit

section
variable {P : Program} {ops : Array Oper} {md : Region.Mode} {κ : Type} {Cl : κ → World}

def mixT (P : Program) (md : Region.Mode) (ops : Array Oper) (Cl : κ → World) (n : Nat) (L : Array Bool → Act → World → Prop) : Nat → Array Bool → Act → World → Prop
  | 0, listed, a, w => ∀ d, L listed a (bw w d)
  | f + 1, listed, a, w => Region.ready md ops listed ≠ [] ∧ ∀ i ∈ Region.ready md ops listed, i < n ∧ ∀ d, oneOp P ops i (fun a' w' => (∃ k, w' = Cl k) ∧ mixT P md ops Cl n L f (listed.setIfInBounds i true) a' w') a (bw w d)
theorem mixT_ext {n : Nat} {L : Array Bool → Act → World → Prop} : ∀ {f : Nat} {listed : Array Bool} {a : Act} {w : World} (d : Ext), mixT P md ops Cl n L f listed a w → mixT P md ops Cl n L f listed a (bw w d)
  | 0, _, _, w, d, h => fun e => by rw [bw_bw]; exact h _
  | _ + 1, _, _, w, d, h => ⟨h.1, fun i hi => ⟨(h.2 i hi).1, fun e => by rw [bw_bw]; exact (h.2 i hi).2 _⟩⟩
theorem mixT_sound {n g : Nat} {L : Array Bool → Act → World → Prop} {Q' : Exit → Act → World → Prop} (hL : ∀ listed a w, L listed a w → wpAny P md ops Q' g listed a w) :
    ∀ (f : Nat) (listed : Array Bool) (a : Act) (w : World), mixT P md ops Cl n L f listed a w → wpAny P md ops Q' (f + g) listed a w
  | 0, listed, a, w, h => by rw [Nat.zero_add]; have := h (noExt w); rw [bw_noExt] at this; exact hL _ _ _ this
  | f + 1, listed, a, w, h => by
    rw [show f + 1 + g = (f + g) + 1 by omega]
    refine ⟨fun h0 => absurd h0 h.1, fun i hi => ?_⟩
    have h1 := (h.2 i hi).2 (noExt w)
    rw [bw_noExt] at h1
    unfold oneOp at h1
    unfold wpOp
    split
    · rename_i ho; simp only [ho] at h1; exact mixT_sound hL f _ _ _ h1.2
    · rename_i o ho
      simp only [ho] at h1
      split
      · rename_i hw; rw [if_pos hw] at h1
        exact Or.inl (wp_of_sOp (sOp_mono (fun a w hk => mixT_sound hL f _ a w hk.2) h1))
      · rename_i hw; rw [if_neg hw] at h1; exact mixT_sound hL f _ _ _ h1.2

theorem mixT_first {n i : Nat} {oi : Oper} {v : Value} {L : Array Bool → Act → World → Prop} (hCl : ∀ k d, ∃ k', bw (Cl k) d = Cl k') (hi : ops[i]? = some oi) (hsel : ∀ (j : Nat) (o : Oper) cs b, ops[j]? = some o → o.op ≠ .select cs b)
    (hs : Region.sinkB md ops n = true) (hc : Region.chainB md ops n = true) (hn : n < ops.size) (hin : i < n) (hdone : ∀ listed a w, L listed a w → ∀ j ∈ Region.ready md ops listed, n ≤ j) :
    ∀ (f : Nat) (listed : Array Bool) (a : Act) (w : World), (∃ k, w = Cl k) → HeadInv md ops n listed →
      (∀ j oj, ops[j]? = some oj → j ≠ i → listed.getD j true = false → (∀ e ∈ oj.after, Region.binds md e = true → e.on ≠ i) → oi.apart ops oj = true) →
      i ∈ Region.ready md ops listed → YieldsM P ops Cl oi v a →
      mixT P md ops Cl n L f (listed.setIfInBounds i true) (a.put oi.dst v) w → mixT P md ops Cl n L (f + 1) listed a w := by
  have cl : ∀ w d, (∃ k, w = Cl k) → ∃ k, bw w d = Cl k := fun w d ⟨k, hk⟩ => by rw [hk]; exact hCl k d
  intro f
  induction f with
  | zero =>
    intro listed a w hw inv _ hr hy H
    have hun := (mem_ready.1 hr).1
    have early : ∀ j ∈ Region.ready md ops listed, j < n := fun j hj =>
      Nat.lt_of_not_le fun hle => tail_waits hs hc hn inv _ i rfl hin hun j hle hj
    refine ⟨List.ne_nil_of_mem hr, fun j hj => ⟨early j hj, fun d => ?_⟩⟩
    by_cases hji : j = i
    · subst hji
      exact hy.oneOp hi (cl w d hw) ⟨cl w d hw, mixT_ext d H⟩ (fun e => ⟨cl _ e (cl w d hw), mixT_ext e (mixT_ext d H)⟩)
    · exact absurd (hdone _ _ _ (H (noExt w)) j (ready_mono hj hji)) (Nat.not_le_of_lt (early j hj))
  | succ f ih =>
    intro listed a w hw inv hfree hr hy H
    have hun := (mem_ready.1 hr).1
    have early : ∀ j ∈ Region.ready md ops listed, j < n := fun j hj =>
      Nat.lt_of_not_le fun hle => tail_waits hs hc hn inv _ i rfl hin hun j hle hj
    refine ⟨List.ne_nil_of_mem hr, fun j hj => ⟨early j hj, fun d => ?_⟩⟩
    by_cases hji : j = i
    · subst hji
      exact hy.oneOp hi (cl w d hw) ⟨cl w d hw, mixT_ext d H⟩ (fun e => ⟨cl _ e (cl w d hw), mixT_ext e (mixT_ext d H)⟩)
    · have h1 := (H.2 j (ready_mono hj hji)).2 d
      obtain ⟨hjun, oj, hoj, hall⟩ := mem_ready.1 hj
      have hnot : ∀ e ∈ oj.after, Region.binds md e = true → e.on ≠ i := fun e he hb heq => by
        have h2 := hall e he hb
        rw [heq, getD_both hun] at h2
        cases h2
      have h2 := oneOp_put hoj (hfree j oj hoj hji hjun hnot) (fun cs b => hsel i oi cs b hi) (fun cs b => hsel j oj cs b hoj) hy h1
      have hfree' : ∀ k ok, ops[k]? = some ok → k ≠ i → (listed.setIfInBounds j true).getD k true = false →
          (∀ e ∈ ok.after, Region.binds md e = true → e.on ≠ i) → oi.apart ops ok = true := fun k ok hk hki hu hno => by
        refine hfree k ok hk hki ?_ hno
        by_cases hjk : j = k
        · subst hjk; exact hjun
        · rw [getD_set_ne true hjk] at hu; exact hu
      refine oneOp_mono (fun a' w' h3 => ⟨h3.2.1, ih (listed.setIfInBounds j true) a' w' h3.2.1 (inv.set hj (early j hj)) hfree' (ready_mono hr (Ne.symm hji)) h3.1 ?_⟩) h2
      rw [Array.setIfInBounds_comm _ _ hji]
      exact h3.2.2

def lexMT (md : Region.Mode) (ops : Array Oper) (n g : Nat) : List Nat → Nat → Array Bool → Bool
  | [], k, listed => decide (k = n) && Region.seqB md ops g k listed
  | 0 :: s, k, listed => decide (k < n) && (Region.ready md ops listed).contains k && Region.free md ops listed k && lexMT md ops n g s (k + 1) (listed.setIfInBounds k true)
  | 1 :: s, k, listed => decide (k < n) && decide (Region.ready md ops listed = [k]) && lexMT md ops n g s (k + 1) (listed.setIfInBounds k true)
  | _, _, _ => false

theorem mixT_of_wpM {n g : Nat} {Lq : Act → World → Prop} (hCl : ∀ k d, ∃ k', bw (Cl k) d = Cl k') (hsel : Region.noSelect ops = true) (hs : Region.sinkB md ops n = true) (hc : Region.chainB md ops n = true) (hn : n < ops.size) :
    ∀ (s : List Nat) (l : List Oper) (k : Nat) (listed : Array Bool) (a : Act) (w : World), (∀ j, j < l.length → l[j]? = ops[k + j]?) → k + l.length = n → HeadInv md ops n listed → (∃ k, w = Cl k) → lexMT md ops n g s k listed = true →
    wpM P ops Cl Lq s l a w → mixT P md ops Cl n (fun listed' a' w' => Region.seqB md ops g n listed' = true ∧ Lq a' w') l.length listed a w
  | [], l, k, listed, a, w, hl, hk, inv, hw, hB, h => by
    simp only [lexMT, Bool.and_eq_true, decide_eq_true_eq] at hB
    obtain ⟨hkn, hB⟩ := hB
    have : l = [] := List.eq_nil_of_length_eq_zero (by omega)
    subst this
    subst hkn
    exact fun d => ⟨hB, h d⟩
  | 0 :: s, l, k, listed, a, w, hl, hk, inv, hw, hB, h => by
    simp only [lexMT, Bool.and_eq_true, decide_eq_true_eq] at hB
    obtain ⟨⟨⟨hkn, hr⟩, hf⟩, hB'⟩ := hB
    cases l with
    | nil => simp at hk; omega
    | cons o l =>
      have h0 : ops[k]? = some o := by simpa using (hl 0 (by simp)).symm
      have hr' : k ∈ Region.ready md ops listed := by simpa using hr
      have hy : ∃ v, YieldsM P ops Cl o v a ∧ wpM P ops Cl Lq s l (a.put o.dst v) w := by
        simp only [wpM] at h
        by_cases hw1 : Region.wanted o (yielded ops a.tmps) = true
        · rw [if_pos hw1] at h
          obtain ⟨v, h1, h2⟩ := h
          exact ⟨v, .inl ⟨hw1, h1⟩, h2⟩
        · rw [if_neg hw1] at h
          exact ⟨undef, .inr ⟨by simpa using hw1, rfl⟩, h⟩
      obtain ⟨v, hy, hK⟩ := hy
      simp only [List.length_cons] at hk
      exact mixT_first hCl h0 (Region.noSelect_spec hsel) hs hc hn hkn (fun _ _ _ hL => seqB_ready hL.1) l.length listed a w hw inv (Region.free_spec h0 hf) hr' hy
        (mixT_of_wpM hCl hsel hs hc hn s l (k + 1) _ _ w (fun j hj => by have := hl (j + 1) (by simp; omega); simpa [Nat.add_assoc, Nat.add_comm 1 j] using this) (by omega) (inv.set hr' hkn) hw hB' hK)
  | 1 :: s, l, k, listed, a, w, hl, hk, inv, hw, hB, h => by
    simp only [lexMT, Bool.and_eq_true, decide_eq_true_eq] at hB
    obtain ⟨⟨hkn, hr⟩, hB'⟩ := hB
    cases l with
    | nil => simp at hk; omega
    | cons o l =>
      have h0 : ops[k]? = some o := by simpa using (hl 0 (by simp)).symm
      simp only [List.length_cons] at hk
      have hl' : ∀ j, j < l.length → l[j]? = ops[k + 1 + j]? := fun j hj => by have := hl (j + 1) (by simp; omega); simpa [Nat.add_assoc, Nat.add_comm 1 j] using this
      have inv' := inv.set (i := k) (by rw [hr]; simp) hkn
      refine ⟨by rw [hr]; simp, fun i hi => ?_⟩
      rw [hr] at hi
      obtain rfl : i = k := by simpa using hi
      refine ⟨hkn, fun d => ?_⟩
      simp only [wpM] at h
      have hd := h d
      rw [oneOp_some h0]
      split
      · rename_i hw1; rw [if_pos hw1] at hd
        exact sOp_mono (fun a' w' hk' => ⟨hk'.1, mixT_of_wpM hCl hsel hs hc hn s l (i + 1) _ _ w' hl' (by omega) inv' hk'.1 hB' hk'.2⟩) hd
      · rename_i hw1; rw [if_neg hw1] at hd
        exact ⟨hd.1, mixT_of_wpM hCl hsel hs hc hn s l (i + 1) _ _ _ hl' (by omega) inv' hd.1 hB' hd.2⟩
  | (_ + 2) :: _, _, _, _, _, _, _, _, _, _, hB, _ => by simp [lexMT] at hB

theorem region_mixT {id : Nat} {Q : Exit → Act → World → Prop} {a : Act} {w : World} {l : List Oper} (n : Nat) (s : List Nat) (hm : P.follows .mixedOrders = true) (hsel : Region.noSelect l.toArray = true)
    (hs : Region.sinkB .any l.toArray n = true) (hc : Region.chainB .any l.toArray n = true) (hn : n < l.toArray.size)
    (hB : lexMT .any l.toArray n (l.toArray.size - n) s 0 (Array.replicate l.toArray.size false) = true)
    (h : wpM P l.toArray (fun d => bw w d) (fun a w => wpList P l.toArray Q (l.drop n) a w) s (l.take n) a w) : (Code.region id l.toArray true).wp P Q a w := by
  have hn' : n < l.length := by simpa using hn
  have htl : (l.take n).length = n := by simp; omega
  have hdl : (l.drop n).length = l.toArray.size - n := by simp
  have inv0 : HeadInv .any l.toArray n (Array.replicate l.toArray.size false) :=
    ⟨by simp, fun j oj _ hl => (by rw [getD_replicate_false] at hl; cases hl), fun t _ ht => getD_in (by simpa using ht) (getD_replicate_false _ _)⟩
  have H := mixT_of_wpM (md := .any) (g := l.toArray.size - n) (fun k d => ⟨_, bw_bw w k d⟩) hsel hs hc hn s (l.take n) 0 _ a w (fun j hj => by
    have hj' : j < n := by rw [htl] at hj; exact hj
    simp [hj']) (by simpa using htl) inv0 ⟨noExt w, (bw_noExt w).symm⟩ hB h
  refine wp_region_any hm ?_
  have := mixT_ext (⟨#[], w.drawn + 1⟩ : Ext) H
  rw [← bw_drewExt] at this
  have := mixT_sound (Q' := Q) (g := l.toArray.size - n) (fun listed a' w' hL => by
    have := wpAny_of_seq (md := .any) (Q' := Q) (l.drop n) n listed a' w' (fun j => by simp [List.getElem?_drop]) (by rw [hdl]; exact hL.1) hL.2
    rwa [hdl] at this) _ _ _ _ this
  rw [htl, show n + (l.toArray.size - n) = l.toArray.size by omega] at this
  exact this
end
/-- As wpList_push, the element lying in a block that was made at some time before. -/
theorem wpList_push2 {P : Program} {ops : Array Oper} {rest : List Oper} {o : Oper} {a : Act} {Q : Exit → Act → World → Prop} (hgd : o.guard = none) (s x : Operand) (t : TypeId)
    (ho : o.op = .call { callee := .builtin .append, args := #[s, x], argTypes := #[t, t] })
    (e : TypeId) (i : TypeInfo) (z : Value) (size bytes : Nat) (ht : P.underlying t = some (.slice e)) (hi : P.info? e = some i) (hz : i.zero = some z)
    (hsize : i.size = size) (hby : i.bytes = bytes) (hzs : z.cells.size = size) (hsz : 0 < size)
    (w0 wb : World) (c : Array Value) (te : TypeId) (xb : Nat) (v : Value) (n : Nat) (xs : List Value) (hw : Below w0.heap.size w0 wb) (hown : wb.ownsRow w0.heap.size e size v n xs)
    (hcell : wb.heap[xb]? = some (.cells c te (0, 0))) (hs : a.eval s = v) (hx : a.eval x = .slice (some ⟨xb, 0, none⟩) 1 1) (hc : c.size = size) (h1 : ∀ u ∈ c.toList, u.oneCell' = true)
    (hn : n + 1 ≤ maxLen) (hb : (n + 1) * bytes ≤ 140737488355328)
    (h : ∀ v' d, (bw w0 d).ownsRow w0.heap.size e size v' (n + 1) (xs ++ c.toList) → wpList P ops Q rest (a.put o.dst v') (bw w0 d)) :
    wpList P ops Q (o :: rest) a wb := by
  refine wpList_append_own _ hgd s x t ho w0.heap.size e i z size bytes ht hi hz hsize hby hzs hsz v n xs hs hown ⟨xb, 0, none⟩ 1 1 c.toList hx (by simp [hc]) (World.news_of_block hcell) h1 hn hb hw.size ?_
  intro v' w' hown' hg _
  obtain ⟨d, hd⟩ := bw_of (w := w0) (w' := w') (hw.grown hg hw.size (fun k hk => (hown.lt k hk).1))
  subst hd
  exact h v' d hown'
theorem row_bw {w : World} {base n size : Nat} {e : TypeId} {v : Value} {xs : List Value} (h : w.ownsRow base e size v n xs) (d : Ext) : (bw w d).ownsRow base e size v n xs :=
  h.kept (row := none) ⟨rfl, rfl, rfl, bw_le w d, fun k hk _ => bw_get w d k hk⟩ (by
    rcases h.2 with ⟨h1, _⟩ | ⟨g, cap, cur, h1, _⟩ <;> rw [h1]
    · exact .inl rfl
    · exact .inr (by simp [Value.ownBlock]))
theorem row_lay {w : World} {base n size : Nat} {e : TypeId} {v : Value} {xs : List Value} (h : w.ownsRow base e size v n xs) (L : List (Obj ⊕ Ext)) : (lay w L).ownsRow base e size v n xs := by
  obtain ⟨d, hd⟩ := lay_ex w L
  rw [hd]; exact row_bw h d
end Go.Proofs.Ytakcfcekdngndaa
/- Regions that draw their order, by a schedule in an order of one's own, with a tail. No program in sight. -/
namespace Go.Proofs.Ytakcfcekdngndaa
open Go.RowKit

section
variable {P : Program} {md : Region.Mode} {κ : Type} {Cl : κ → World} {l : List Oper} {ops : Array Oper}

def wpMP (P : Program) (l : List Oper) (ops : Array Oper) (Cl : κ → World) (Q : Act → World → Prop) : List (Nat × Nat) → Act → World → Prop
  | [], a, w => ∀ d, Q a (bw w d)
  | (i, 0) :: s, a, w => ∃ o, l[i]? = some o ∧ (if Region.wanted o (yielded ops a.tmps) then mOp P Cl o a (fun a' => wpMP P l ops Cl Q s a' w) else wpMP P l ops Cl Q s (a.put o.dst undef) w)
  | (i, 1) :: s, a, w => ∃ o, l[i]? = some o ∧ ∀ d, (if Region.wanted o (yielded ops a.tmps) then sOp P o a (fun a' w' => (∃ k, w' = Cl k) ∧ wpMP P l ops Cl Q s a' w') (bw w d) else (∃ k, bw w d = Cl k) ∧ wpMP P l ops Cl Q s (a.put o.dst undef) (bw w d))
  | (_, _ + 2) :: _, _, _ => False
def lexMP (md : Region.Mode) (ops : Array Oper) (n g : Nat) : List (Nat × Nat) → Array Bool → Bool
  | [], listed => Region.seqB md ops g n listed
  | (i, 0) :: s, listed => decide (i < n) && (Region.ready md ops listed).contains i && Region.free md ops listed i && lexMP md ops n g s (listed.setIfInBounds i true)
  | (i, 1) :: s, listed => decide (i < n) && decide (Region.ready md ops listed = [i]) && lexMP md ops n g s (listed.setIfInBounds i true)
  | (_, _ + 2) :: _, _ => false

theorem mixT_of_wpMP {n g : Nat} {Lq : Act → World → Prop} (hCl : ∀ k d, ∃ k', bw (Cl k) d = Cl k') (hl : ∀ j : Nat, l[j]? = ops[j]?) (hsel : Region.noSelect ops = true) (hs : Region.sinkB md ops n = true) (hc : Region.chainB md ops n = true) (hn : n < ops.size) :
    ∀ (s : List (Nat × Nat)) (listed : Array Bool) (a : Act) (w : World), HeadInv md ops n listed → (∃ k, w = Cl k) → lexMP md ops n g s listed = true →
    wpMP P l ops Cl Lq s a w → mixT P md ops Cl n (fun listed' a' w' => Region.seqB md ops g n listed' = true ∧ Lq a' w') s.length listed a w
  | [], listed, a, w, inv, hw, hB, h => fun d => ⟨hB, h d⟩
  | (k, 0) :: s, listed, a, w, inv, hw, hB, h => by
    simp only [lexMP, Bool.and_eq_true, decide_eq_true_eq] at hB
    obtain ⟨⟨⟨hkn, hr⟩, hf⟩, hB'⟩ := hB
    obtain ⟨o, ho, h⟩ := h
    have h0 : ops[k]? = some o := (hl k).symm.trans ho
    have hr' : k ∈ Region.ready md ops listed := by simpa using hr
    have hy : ∃ v, YieldsM P ops Cl o v a ∧ wpMP P l ops Cl Lq s (a.put o.dst v) w := by
      by_cases hw1 : Region.wanted o (yielded ops a.tmps) = true
      · rw [if_pos hw1] at h
        obtain ⟨v, h1, h2⟩ := h
        exact ⟨v, .inl ⟨hw1, h1⟩, h2⟩
      · rw [if_neg hw1] at h
        exact ⟨undef, .inr ⟨by simpa using hw1, rfl⟩, h⟩
    obtain ⟨v, hy, hK⟩ := hy
    exact mixT_first hCl h0 (Region.noSelect_spec hsel) hs hc hn hkn (fun _ _ _ hL => seqB_ready hL.1) s.length listed a w hw inv (Region.free_spec h0 hf) hr' hy
      (mixT_of_wpMP hCl hl hsel hs hc hn s _ _ w (inv.set hr' hkn) hw hB' hK)
  | (k, 1) :: s, listed, a, w, inv, hw, hB, h => by
    simp only [lexMP, Bool.and_eq_true, decide_eq_true_eq] at hB
    obtain ⟨⟨hkn, hr⟩, hB'⟩ := hB
    obtain ⟨o, ho, h⟩ := h
    have h0 : ops[k]? = some o := (hl k).symm.trans ho
    have inv' := inv.set (i := k) (by rw [hr]; simp) hkn
    refine ⟨by rw [hr]; simp, fun i hi => ?_⟩
    rw [hr] at hi
    obtain rfl : i = k := by simpa using hi
    refine ⟨hkn, fun d => ?_⟩
    have hd := h d
    rw [oneOp_some h0]
    split
    · rename_i hw1; rw [if_pos hw1] at hd
      exact sOp_mono (fun a' w' hk' => ⟨hk'.1, mixT_of_wpMP hCl hl hsel hs hc hn s _ _ w' inv' hk'.1 hB' hk'.2⟩) hd
    · rename_i hw1; rw [if_neg hw1] at hd
      exact ⟨hd.1, mixT_of_wpMP hCl hl hsel hs hc hn s _ _ _ inv' hd.1 hB' hd.2⟩
  | (_, _ + 2) :: _, _, _, _, _, _, hB, _ => by simp [lexMP] at hB

theorem region_mixP {id : Nat} {Q : Exit → Act → World → Prop} {a : Act} {w : World} {l : List Oper} (s : List (Nat × Nat)) (hm : P.follows .mixedOrders = true) (hsel : Region.noSelect l.toArray = true)
    (hs : Region.sinkB .any l.toArray s.length = true) (hc : Region.chainB .any l.toArray s.length = true) (hn : s.length < l.toArray.size)
    (hB : lexMP .any l.toArray s.length (l.toArray.size - s.length) s (Array.replicate l.toArray.size false) = true)
    (h : wpMP P l l.toArray (fun d => bw w d) (fun a w => wpList P l.toArray Q (l.drop s.length) a w) s a w) : (Code.region id l.toArray true).wp P Q a w := by
  have hn' : s.length < l.length := by simpa using hn
  have hdl : (l.drop s.length).length = l.toArray.size - s.length := by simp
  have inv0 : HeadInv .any l.toArray s.length (Array.replicate l.toArray.size false) :=
    ⟨by simp, fun j oj _ hl => (by rw [getD_replicate_false] at hl; cases hl), fun t _ ht => getD_in (by simpa using ht) (getD_replicate_false _ _)⟩
  have H := mixT_of_wpMP (md := .any) (g := l.toArray.size - s.length) (fun k d => ⟨_, bw_bw w k d⟩) (fun j => by simp) hsel hs hc hn s _ a w inv0 ⟨noExt w, (bw_noExt w).symm⟩ hB h
  refine wp_region_any hm ?_
  have := mixT_ext (⟨#[], w.drawn + 1⟩ : Ext) H
  rw [← bw_drewExt] at this
  have := mixT_sound (Q' := Q) (g := l.toArray.size - s.length) (fun listed a' w' hL => by
    have := wpAny_of_seq (md := .any) (Q' := Q) (l.drop s.length) s.length listed a' w' (fun j => by simp [List.getElem?_drop]) (by rw [hdl]; exact hL.1) hL.2
    rwa [hdl] at this) _ _ _ _ this
  rw [show s.length + (l.toArray.size - s.length) = l.toArray.size by omega] at this
  exact this
theorem wpMP_quiet {Q : Act → World → Prop} {a : Act} {w : World} {i : Nat} {o : Oper} {s : List (Nat × Nat)} (ho : l[i]? = some o)
    (h : ∀ K : Act → Prop, (∀ a, wpMP P l ops Cl Q s a w → K a) → if Region.wanted o (yielded ops a.tmps) then mOp P Cl o a K else K (a.put o.dst undef)) : wpMP P l ops Cl Q ((i, 0) :: s) a w :=
  ⟨o, ho, h _ (fun _ h => h)⟩
theorem wpMP_special {Q : Act → World → Prop} {a : Act} {w : World} {i : Nat} {o : Oper} {s : List (Nat × Nat)} (ho : l[i]? = some o)
    (h : ∀ (K : Act → World → Prop), (∀ a' w', (∃ k, w' = Cl k) → wpMP P l ops Cl Q s a' w' → K a' w') → ∀ d, if Region.wanted o (yielded ops a.tmps) then sOp P o a K (bw w d) else K (a.put o.dst undef) (bw w d)) : wpMP P l ops Cl Q ((i, 1) :: s) a w :=
  ⟨o, ho, fun d => by
    have := h (fun a' w' => (∃ k, w' = Cl k) ∧ wpMP P l ops Cl Q s a' w') (fun _ _ h1 h2 => ⟨h1, h2⟩) d
    split
    · rename_i hw; rw [if_pos hw] at this; exact this
    · rename_i hw; rw [if_neg hw] at this; exact this⟩
theorem wpMP_nil {Q : Act → World → Prop} {a : Act} {w : World} (h : ∀ d, Q a (bw w d)) : wpMP P l ops Cl Q [] a w := h
end
end Go.Proofs.Ytakcfcekdngndaa
/- Regions that draw their order, by a schedule in an order of one's own, in a class of worlds of one's own; an append at a step of such a region. No program in sight. -/
namespace Go.Proofs.Ytakcfcekdngndaa
open Go.RowKit

section
variable {P : Program} {md : Region.Mode} {κ : Type} {Cl : κ → World} {l : List Oper} {ops : Array Oper}

def lexMC (md : Region.Mode) (ops : Array Oper) : List (Nat × Nat) → Array Bool → Bool
  | [], listed => (Region.ready md ops listed).isEmpty
  | (i, 0) :: s, listed => (Region.ready md ops listed).contains i && Region.free md ops listed i && lexMC md ops s (listed.setIfInBounds i true)
  | (i, 1) :: s, listed => decide (Region.ready md ops listed = [i]) && lexMC md ops s (listed.setIfInBounds i true)
  | (_, _ + 2) :: _, _ => false

theorem wpC_of_wpMP {Q : Act → World → Prop} (hCl : ∀ k d, ∃ k', bw (Cl k) d = Cl k') (hl : ∀ j : Nat, l[j]? = ops[j]?) (hsel : Region.noSelect ops = true) :
    ∀ (s : List (Nat × Nat)) (listed : Array Bool) (a : Act) (w : World), (∃ k, w = Cl k) → lexMC md ops s listed = true → wpMP P l ops Cl Q s a w → wpC P md ops Cl Q s.length listed a w
  | [], listed, a, w, hw, hB, h => by
    simp only [lexMC, List.isEmpty_iff] at hB
    exact ⟨hB, h⟩
  | (k, 0) :: s, listed, a, w, hw, hB, h => by
    simp only [lexMC, Bool.and_eq_true] at hB
    obtain ⟨⟨hr, hf⟩, hB'⟩ := hB
    obtain ⟨o, ho, h⟩ := h
    have h0 : ops[k]? = some o := (hl k).symm.trans ho
    have hr' : k ∈ Region.ready md ops listed := by simpa using hr
    have hy : ∃ v, YieldsM P ops Cl o v a ∧ wpMP P l ops Cl Q s (a.put o.dst v) w := by
      by_cases hw1 : Region.wanted o (yielded ops a.tmps) = true
      · rw [if_pos hw1] at h
        obtain ⟨v, h1, h2⟩ := h
        exact ⟨v, .inl ⟨hw1, h1⟩, h2⟩
      · rw [if_neg hw1] at h
        exact ⟨undef, .inr ⟨by simpa using hw1, rfl⟩, h⟩
    obtain ⟨v, hy, hK⟩ := hy
    exact wpC_first hCl h0 (Region.noSelect_spec hsel) s.length listed a w hw (Region.free_spec h0 hf) hr' hy (wpC_of_wpMP hCl hl hsel s _ _ w hw hB' hK)
  | (k, 1) :: s, listed, a, w, hw, hB, h => by
    simp only [lexMC, Bool.and_eq_true, decide_eq_true_eq] at hB
    obtain ⟨hr, hB'⟩ := hB
    obtain ⟨o, ho, h⟩ := h
    have h0 : ops[k]? = some o := (hl k).symm.trans ho
    refine ⟨by rw [hr]; simp, fun i hi d => ?_⟩
    rw [hr] at hi
    obtain rfl : i = k := by simpa using hi
    have hd := h d
    rw [oneOp_some h0]
    split
    · rename_i hw1; rw [if_pos hw1] at hd
      exact sOp_mono (fun a' w' hk => ⟨hk.1, wpC_of_wpMP hCl hl hsel s _ _ w' hk.1 hB' hk.2⟩) hd
    · rename_i hw1; rw [if_neg hw1] at hd
      exact ⟨hd.1, wpC_of_wpMP hCl hl hsel s _ _ _ hd.1 hB' hd.2⟩
  | (_, _ + 2) :: _, _, _, _, _, hB, _ => by simp [lexMC] at hB

/-- The class: worlds that extend W0 (whose own blocks the region's own row is not among). -/
theorem region_mixC {id : Nat} {Q : Exit → Act → World → Prop} {a : Act} {w : World} {l : List Oper} (s : List (Nat × Nat)) (W0 : World) (hm : P.follows .mixedOrders = true) (hsel : Region.noSelect l.toArray = true)
    (hB : lexMC .any l.toArray s (Array.replicate l.toArray.size false) = true) (hn : s.length = l.toArray.size) (hw : ∃ k, w = bw W0 k)
    (h : wpMP P l l.toArray (fun d => bw W0 d) (fun a w => Q .normal a w) s a w) : (Code.region id l.toArray true).wp P Q a w := by
  refine wp_region_any hm ?_
  have := wpC_of_wpMP (md := .any) (fun k d => ⟨_, bw_bw W0 k d⟩) (fun j => by simp) hsel s _ a w hw hB h
  have := wpC_ext (⟨#[], w.drawn + 1⟩ : Ext) this
  rw [← bw_drewExt] at this
  have := wpC_sound (Q' := Q) _ _ _ _ this
  rwa [hn] at this
end
/-- An append at a step of such a region: the row is longer, in some world that extends W0; the blocks but the row's own lie as they lay. -/
theorem sOp_push {P : Program} {o : Oper} {a : Act} {K : Act → World → Prop} (s x : Operand) (t : TypeId)
    (ho : o.op = .call { callee := .builtin .append, args := #[s, x], argTypes := #[t, t] })
    (e : TypeId) (i : TypeInfo) (z : Value) (size bytes : Nat) (ht : P.underlying t = some (.slice e)) (hi : P.info? e = some i) (hz : i.zero = some z)
    (hsize : i.size = size) (hby : i.bytes = bytes) (hzs : z.cells.size = size) (hsz : 0 < size)
    (w0 wb : World) (c : Array Value) (te : TypeId) (xb : Nat) (v : Value) (n : Nat) (xs : List Value) (hw : Below w0.heap.size w0 wb) (hown : wb.ownsRow w0.heap.size e size v n xs)
    (hcell : wb.heap[xb]? = some (.cells c te (0, 0))) (hs : a.eval s = v) (hx : a.eval x = .slice (some ⟨xb, 0, none⟩) 1 1) (hc : c.size = size) (h1 : ∀ u ∈ c.toList, u.oneCell' = true)
    (hn : n + 1 ≤ maxLen) (hb : (n + 1) * bytes ≤ 140737488355328)
    (h : ∀ g cap d, (bw w0 d).ownsRow w0.heap.size e size (.slice (some ⟨g, 0, none⟩) (n + 1) cap) (n + 1) (xs ++ c.toList) → wb.grownBy (bw w0 d) v.ownBlock → (v.ownBlock = some g ∨ g = wb.heap.size) →
      K (a.put o.dst (.slice (some ⟨g, 0, none⟩) (n + 1) cap)) (bw w0 d)) : sOp P o a K wb := by
  obtain ⟨g, cap, w', hr, h2, h3, h4, h5⟩ := run_append_lies (P := P) wb t o.type w0.heap.size e i z size bytes ht hi hz hsize hby hzs hsz v n xs hown ⟨xb, 0, none⟩ 1 1 c.toList (by simp [hc]) (World.news_of_block hcell) h1 (by decide) hn hb hw.size wb.heap.size rfl
  obtain ⟨d, hd⟩ := bw_of (w := w0) (w' := w') (hw.grown h3 hw.size (fun k hk => (hown.lt k hk).1))
  subst hd
  unfold sOp execOp
  simp only [ho, resolve, invoke, builtin, Sem.run_bind, Sem.run_pure, Result.andThen_ok, List.map_toArray, List.map_cons, List.map_nil, hs, hx, hr]
  exact h g cap d h2 h3 h4
/-- Own order, own class, with a tail. -/
theorem region_mixQ {P : Program} {id : Nat} {Q : Exit → Act → World → Prop} {a : Act} {w : World} {l : List Oper} (s : List (Nat × Nat)) (W0 : World) (hm : P.follows .mixedOrders = true) (hsel : Region.noSelect l.toArray = true)
    (hs : Region.sinkB .any l.toArray s.length = true) (hc : Region.chainB .any l.toArray s.length = true) (hn : s.length < l.toArray.size)
    (hB : lexMP .any l.toArray s.length (l.toArray.size - s.length) s (Array.replicate l.toArray.size false) = true) (hw : ∃ k, w = bw W0 k)
    (h : wpMP P l l.toArray (fun d => bw W0 d) (fun a w => wpList P l.toArray Q (l.drop s.length) a w) s a w) : (Code.region id l.toArray true).wp P Q a w := by
  have hn' : s.length < l.length := by simpa using hn
  have hdl : (l.drop s.length).length = l.toArray.size - s.length := by simp
  have inv0 : HeadInv .any l.toArray s.length (Array.replicate l.toArray.size false) :=
    ⟨by simp, fun j oj _ hl => (by rw [getD_replicate_false] at hl; cases hl), fun t _ ht => getD_in (by simpa using ht) (getD_replicate_false _ _)⟩
  have H := mixT_of_wpMP (md := .any) (g := l.toArray.size - s.length) (fun k d => ⟨_, bw_bw W0 k d⟩) (fun j => by simp) hsel hs hc hn s _ a w inv0 hw hB h
  refine wp_region_any hm ?_
  have := mixT_ext (⟨#[], w.drawn + 1⟩ : Ext) H
  rw [← bw_drewExt] at this
  have := mixT_sound (Q' := Q) (g := l.toArray.size - s.length) (fun listed a' w' hL => by
    have := wpAny_of_seq (md := .any) (Q' := Q) (l.drop s.length) s.length listed a' w' (fun j => by simp [List.getElem?_drop]) (by rw [hdl]; exact hL.1) hL.2
    rwa [hdl] at this) _ _ _ _ this
  rw [show s.length + (l.toArray.size - s.length) = l.toArray.size by omega] at this
  exact this
/-- As wpList_push2, and the blocks but the row's own lie as they lay. -/
theorem wpList_push3 {P : Program} {ops : Array Oper} {rest : List Oper} {o : Oper} {a : Act} {Q : Exit → Act → World → Prop} (hgd : o.guard = none) (s x : Operand) (t : TypeId)
    (ho : o.op = .call { callee := .builtin .append, args := #[s, x], argTypes := #[t, t] })
    (e : TypeId) (i : TypeInfo) (z : Value) (size bytes : Nat) (ht : P.underlying t = some (.slice e)) (hi : P.info? e = some i) (hz : i.zero = some z)
    (hsize : i.size = size) (hby : i.bytes = bytes) (hzs : z.cells.size = size) (hsz : 0 < size)
    (w0 wb : World) (c : Array Value) (te : TypeId) (xb : Nat) (v : Value) (n : Nat) (xs : List Value) (hw : Below w0.heap.size w0 wb) (hown : wb.ownsRow w0.heap.size e size v n xs)
    (hcell : wb.heap[xb]? = some (.cells c te (0, 0))) (hs : a.eval s = v) (hx : a.eval x = .slice (some ⟨xb, 0, none⟩) 1 1) (hc : c.size = size) (h1 : ∀ u ∈ c.toList, u.oneCell' = true)
    (hn : n + 1 ≤ maxLen) (hb : (n + 1) * bytes ≤ 140737488355328)
    (h : ∀ g cap d, (bw w0 d).ownsRow w0.heap.size e size (.slice (some ⟨g, 0, none⟩) (n + 1) cap) (n + 1) (xs ++ c.toList) → wb.grownBy (bw w0 d) v.ownBlock → (v.ownBlock = some g ∨ g = wb.heap.size) →
      wpList P ops Q rest (a.put o.dst (.slice (some ⟨g, 0, none⟩) (n + 1) cap)) (bw w0 d)) :
    wpList P ops Q (o :: rest) a wb := by
  refine wpList_append_lies wb hgd s x t ho w0.heap.size e i z size bytes ht hi hz hsize hby hzs hsz v n xs hs hown ⟨xb, 0, none⟩ 1 1 c.toList hx (by simp [hc]) (World.news_of_block hcell) h1 (by decide) hn hb hw.size wb.heap.size rfl ?_
  intro g cap w' hown' hg hat _
  obtain ⟨d, hd⟩ := bw_of (w := w0) (w' := w') (hw.grown hg hw.size (fun k hk => (hown.lt k hk).1))
  subst hd
  exact h g cap d hown' hg hat
/-- Another row of the call's own lies as it lay behind an append. -/
theorem row_other {w w' : World} {base n size : Nat} {e : TypeId} {v : Value} {xs : List Value} {row : Option Nat} (h : w.ownsRow base e size v n xs) (hg : w.grownBy w' row) (hne : v.ownBlock = none ∨ v.ownBlock ≠ row) : w'.ownsRow base e size v n xs := h.kept hg hne
end Go.Proofs.Ytakcfcekdngndaa
/- Regions that draw their order and store into memory that was there: a schedule in an order of one's own. Operations: 0: quiet, all of them ahead of the store st; 2: pure (the same value in every world), at any time; 1: it alone may come now (ahead of the store); 3: it alone may come now (the store, or behind it). No program in sight. -/
namespace Go.Proofs.Ytakcfcekdngndaa
open Go.RowKit

section
variable {P : Program} {md : Region.Mode} {κ : Type} {Cl : κ → World} {l : List Oper} {ops : Array Oper} {st : Nat}

def inS (Cl : κ → World) (st : Nat) (listed : Array Bool) (w : World) : Prop := listed.getD st false = true ∨ ∃ k, w = Cl k
theorem inS_set {listed : Array Bool} {w : World} (i : Nat) (h : inS Cl st listed w) : inS Cl st (listed.setIfInBounds i true) w := by
  rcases h with h | h
  · left
    by_cases e : i = st
    · subst e
      have hlt : i < listed.size := by
        rcases Nat.lt_or_ge i listed.size with h' | h'
        · exact h'
        · simp [Array.getElem?_eq_none h'] at h
      simp [hlt]
    · simp only [Array.getD_eq_getD_getElem?, Array.getElem?_setIfInBounds_ne e] at h ⊢; exact h
  · exact .inr h
theorem inS_other {listed : Array Bool} {w : World} {i : Nat} (j : Nat) (e : i ≠ st) (h : inS Cl st ((listed.setIfInBounds i true).setIfInBounds j true) w) : inS Cl st (listed.setIfInBounds j true) w := by
  rcases h with h | h
  · left
    by_cases hji : j = i
    · subst hji
      simp only [Array.getD_eq_getD_getElem?, Array.getElem?_setIfInBounds_ne e] at h ⊢; exact h
    · rw [Array.setIfInBounds_comm _ _ (fun h => hji h.symm)] at h
      simp only [Array.getD_eq_getD_getElem?] at h ⊢
      rw [Array.getElem?_setIfInBounds_ne e] at h; exact h
  · exact .inr h
theorem inS_bw (hCl : ∀ k d, ∃ k', bw (Cl k) d = Cl k') {listed : Array Bool} {w : World} (d : Ext) (h : inS Cl st listed w) : inS Cl st listed (bw w d) := by
  rcases h with h | ⟨k, rfl⟩
  · exact .inl h
  · exact .inr (hCl k d)

def wpD (P : Program) (md : Region.Mode) (ops : Array Oper) (Cl : κ → World) (st : Nat) (Q : Act → World → Prop) : Nat → Array Bool → Act → World → Prop
  | 0, listed, a, w => Region.ready md ops listed = [] ∧ ∀ d, Q a (bw w d)
  | f + 1, listed, a, w => Region.ready md ops listed ≠ [] ∧ ∀ i ∈ Region.ready md ops listed, ∀ d, oneOp P ops i (fun a' w' => inS Cl st (listed.setIfInBounds i true) w' ∧ wpD P md ops Cl st Q f (listed.setIfInBounds i true) a' w') a (bw w d)
theorem wpD_ext {Q : Act → World → Prop} : ∀ {f : Nat} {listed : Array Bool} {a : Act} {w : World} (d : Ext), wpD P md ops Cl st Q f listed a w → wpD P md ops Cl st Q f listed a (bw w d)
  | 0, _, _, w, d, h => ⟨h.1, fun e => by rw [bw_bw]; exact h.2 _⟩
  | _ + 1, _, _, w, d, h => ⟨h.1, fun i hi e => by rw [bw_bw]; exact h.2 i hi _⟩
theorem wpD_sound {Q' : Exit → Act → World → Prop} : ∀ (f : Nat) (listed : Array Bool) (a : Act) (w : World), wpD P md ops Cl st (fun a w => Q' .normal a w) f listed a w → wpAny P md ops Q' f listed a w
  | 0, listed, a, w, h => ⟨h.1, by have := h.2 (noExt w); rwa [bw_noExt] at this⟩
  | f + 1, listed, a, w, h => by
    refine ⟨fun h0 => absurd h0 h.1, fun i hi => ?_⟩
    have h1 := h.2 i hi (noExt w)
    rw [bw_noExt] at h1
    unfold oneOp at h1
    unfold wpOp
    split
    · rename_i ho; simp only [ho] at h1; exact wpD_sound f _ _ _ h1.2
    · rename_i o ho
      simp only [ho] at h1
      split
      · rename_i hw; rw [if_pos hw] at h1
        exact Or.inl (wp_of_sOp (sOp_mono (fun a w hk => wpD_sound f _ a w hk.2) h1))
      · rename_i hw; rw [if_neg hw] at h1; exact wpD_sound f _ _ _ h1.2

/-- An operation that is pure, or quiet and ahead of the store, may be taken first. -/
theorem wpD_first {i : Nat} {oi : Oper} {v : Value} {Q : Act → World → Prop} (hCl : ∀ k d, ∃ k', bw (Cl k) d = Cl k') (hi : ops[i]? = some oi) (hsel : ∀ (j : Nat) (o : Oper) cs b, ops[j]? = some o → o.op ≠ .select cs b) (hne : i ≠ st) :
    ∀ (f : Nat) (listed : Array Bool) (a : Act) (w : World), inS Cl st listed w →
      (∀ j oj, ops[j]? = some oj → j ≠ i → listed.getD j true = false → (∀ e ∈ oj.after, Region.binds md e = true → e.on ≠ i) → oi.apart ops oj = true) →
      i ∈ Region.ready md ops listed → (YieldsM P ops (fun W : World => W) oi v a ∨ (YieldsM P ops Cl oi v a ∧ listed.getD st false = false ∧ ∃ os, ops[st]? = some os ∧ ∃ e ∈ os.after, Region.binds md e = true ∧ e.on = i)) →
      wpD P md ops Cl st Q f (listed.setIfInBounds i true) (a.put oi.dst v) w → wpD P md ops Cl st Q (f + 1) listed a w := by
  have one : ∀ {listed : Array Bool} {a : Act} {w : World} {K : Act → World → Prop}, inS Cl st listed w →
      (YieldsM P ops (fun W : World => W) oi v a ∨ (YieldsM P ops Cl oi v a ∧ listed.getD st false = false ∧ ∃ os, ops[st]? = some os ∧ ∃ e ∈ os.after, Region.binds md e = true ∧ e.on = i)) →
      K (a.put oi.dst v) w → (∀ d, K (a.put oi.dst v) (bw w d)) → oneOp P ops i K a w := by
    intro listed a w K hw hy h0 h1
    rcases hy with hy | ⟨hy, hs, _⟩
    · exact hy.oneOp hi ⟨w, rfl⟩ h0 h1
    · exact hy.oneOp hi (hw.resolve_left (by rw [hs]; exact Bool.false_ne_true)) h0 h1
  intro f
  induction f with
  | zero =>
    intro listed a w hw _ hr hy H
    refine ⟨List.ne_nil_of_mem hr, fun j hj d => ?_⟩
    by_cases hji : j = i
    · subst hji
      exact one (inS_bw hCl d hw) hy ⟨inS_set _ (inS_bw hCl d hw), wpD_ext d H⟩ (fun e => ⟨inS_set _ (inS_bw hCl e (inS_bw hCl d hw)), wpD_ext e (wpD_ext d H)⟩)
    · have := ready_mono hj hji
      rw [H.1] at this; cases this
  | succ f ih =>
    intro listed a w hw hfree hr hy H
    have hun := (mem_ready.1 hr).1
    refine ⟨List.ne_nil_of_mem hr, fun j hj d => ?_⟩
    by_cases hji : j = i
    · subst hji
      exact one (inS_bw hCl d hw) hy ⟨inS_set _ (inS_bw hCl d hw), wpD_ext d H⟩ (fun e => ⟨inS_set _ (inS_bw hCl e (inS_bw hCl d hw)), wpD_ext e (wpD_ext d H)⟩)
    · have h1 := H.2 j (ready_mono hj hji) d
      obtain ⟨hjun, oj, hoj, hall⟩ := mem_ready.1 hj
      have hunF : listed.getD i false = false := by
        rcases Nat.lt_or_ge i listed.size with h' | h'
        · simp [h'] at hun ⊢; exact hun
        · simp [Array.getElem?_eq_none h'] at hun
      have hnot : ∀ e ∈ oj.after, Region.binds md e = true → e.on ≠ i := fun e he hb heq => by
        have h2 := hall e he hb
        rw [heq, hunF] at h2
        cases h2
      have hap := hfree j oj hoj hji hjun hnot
      have hfree' : ∀ k ok, ops[k]? = some ok → k ≠ i → (listed.setIfInBounds j true).getD k true = false →
          (∀ e ∈ ok.after, Region.binds md e = true → e.on ≠ i) → oi.apart ops ok = true := fun k ok hk hki hu hno => by
        refine hfree k ok hk hki ?_ hno
        by_cases hjk : j = k
        · subst hjk; exact hjun
        · rw [getD_set_ne true hjk] at hu; exact hu
      have fin : ∀ (a' : Act) (w' : World), (YieldsM P ops (fun W : World => W) oi v a' ∨ (YieldsM P ops Cl oi v a' ∧ (listed.setIfInBounds j true).getD st false = false ∧ ∃ os, ops[st]? = some os ∧ ∃ e ∈ os.after, Region.binds md e = true ∧ e.on = i)) →
          inS Cl st ((listed.setIfInBounds i true).setIfInBounds j true) w' → wpD P md ops Cl st Q f ((listed.setIfInBounds i true).setIfInBounds j true) (a'.put oi.dst v) w' →
          inS Cl st (listed.setIfInBounds j true) w' ∧ wpD P md ops Cl st Q (f + 1) (listed.setIfInBounds j true) a' w' := fun a' w' hy' hin hk => by
        have hin' := inS_other j hne hin
        refine ⟨hin', ih (listed.setIfInBounds j true) a' w' hin' hfree' (ready_mono hr (Ne.symm hji)) hy' ?_⟩
        rw [Array.setIfInBounds_comm _ _ hji]
        exact hk
      rcases hy with hy | ⟨hy, hs, hedge⟩
      · have h2 := oneOp_put hoj hap (fun cs b => hsel i oi cs b hi) (fun cs b => hsel j oj cs b hoj) hy h1
        exact oneOp_mono (fun a' w' h3 => fin a' w' (.inl h3.1) h3.2.1 h3.2.2) h2
      · have hjst : j ≠ st := by
          rintro rfl
          obtain ⟨os, hos, e, he, hb, heq⟩ := hedge
          rw [hoj] at hos
          cases hos
          exact hnot e he hb heq
        have hs' : (listed.setIfInBounds j true).getD st false = false := by
          simp only [Array.getD_eq_getD_getElem?, Array.getElem?_setIfInBounds_ne hjst] at hs ⊢; exact hs
        have h2 := oneOp_put hoj hap (fun cs b => hsel i oi cs b hi) (fun cs b => hsel j oj cs b hoj) hy h1
        exact oneOp_mono (fun a' w' h3 => fin a' w' (.inr ⟨h3.1, hs', hedge⟩) h3.2.1 h3.2.2) h2

def wpMS (P : Program) (l : List Oper) (ops : Array Oper) (Cl : κ → World) (Q : Act → World → Prop) : List (Nat × Nat) → Act → World → Prop
  | [], a, w => ∀ d, Q a (bw w d)
  | (i, 0) :: s, a, w => ∃ o, l[i]? = some o ∧ (if Region.wanted o (yielded ops a.tmps) then mOp P Cl o a (fun a' => wpMS P l ops Cl Q s a' w) else wpMS P l ops Cl Q s (a.put o.dst undef) w)
  | (i, 1) :: s, a, w => ∃ o, l[i]? = some o ∧ ∀ d, (if Region.wanted o (yielded ops a.tmps) then sOp P o a (fun a' w' => (∃ k, w' = Cl k) ∧ wpMS P l ops Cl Q s a' w') (bw w d) else (∃ k, bw w d = Cl k) ∧ wpMS P l ops Cl Q s (a.put o.dst undef) (bw w d))
  | (i, 2) :: s, a, w => ∃ o, l[i]? = some o ∧ (if Region.wanted o (yielded ops a.tmps) then mOp P (fun W : World => W) o a (fun a' => wpMS P l ops Cl Q s a' w) else wpMS P l ops Cl Q s (a.put o.dst undef) w)
  | (i, 3) :: s, a, w => ∃ o, l[i]? = some o ∧ ∀ d, (if Region.wanted o (yielded ops a.tmps) then sOp P o a (fun a' w' => wpMS P l ops Cl Q s a' w') (bw w d) else wpMS P l ops Cl Q s (a.put o.dst undef) (bw w d))
  | (_, _ + 4) :: _, _, _ => False
def edgeB (md : Region.Mode) (ops : Array Oper) (st i : Nat) : Bool := match ops[st]? with | none => false | some os => os.after.any fun e => Region.binds md e && decide (e.on = i)
theorem edge_of {i : Nat} (h : edgeB md ops st i = true) : ∃ os, ops[st]? = some os ∧ ∃ e ∈ os.after, Region.binds md e = true ∧ e.on = i := by
  unfold edgeB at h
  cases ho : ops[st]? with
  | none => rw [ho] at h; cases h
  | some os =>
    rw [ho] at h
    obtain ⟨e, he, h2⟩ := Array.any_eq_true'.1 h
    simp only [Bool.and_eq_true, decide_eq_true_eq] at h2
    exact ⟨os, rfl, e, he, h2.1, h2.2⟩
def lexMS (md : Region.Mode) (ops : Array Oper) (st : Nat) : List (Nat × Nat) → Array Bool → Bool
  | [], listed => (Region.ready md ops listed).isEmpty
  | (i, 0) :: s, listed => decide (i ≠ st) && (!listed.getD st false) && edgeB md ops st i && (Region.ready md ops listed).contains i && Region.free md ops listed i && lexMS md ops st s (listed.setIfInBounds i true)
  | (i, 1) :: s, listed => decide (Region.ready md ops listed = [i]) && lexMS md ops st s (listed.setIfInBounds i true)
  | (i, 2) :: s, listed => decide (i ≠ st) && (Region.ready md ops listed).contains i && Region.free md ops listed i && lexMS md ops st s (listed.setIfInBounds i true)
  | (i, 3) :: s, listed => (listed.setIfInBounds i true).getD st false && decide (Region.ready md ops listed = [i]) && lexMS md ops st s (listed.setIfInBounds i true)
  | (_, _ + 4) :: _, _ => false

theorem wpD_of_wpMS {Q : Act → World → Prop} (hCl : ∀ k d, ∃ k', bw (Cl k) d = Cl k') (hl : ∀ j : Nat, l[j]? = ops[j]?) (hsel : Region.noSelect ops = true) :
    ∀ (s : List (Nat × Nat)) (listed : Array Bool) (a : Act) (w : World), inS Cl st listed w → lexMS md ops st s listed = true → wpMS P l ops Cl Q s a w → wpD P md ops Cl st Q s.length listed a w
  | [], listed, a, w, hw, hB, h => by
    simp only [lexMS, List.isEmpty_iff] at hB
    exact ⟨hB, h⟩
  | (k, 0) :: s, listed, a, w, hw, hB, h => by
    simp only [lexMS, Bool.and_eq_true, decide_eq_true_eq, Bool.not_eq_true'] at hB
    obtain ⟨⟨⟨⟨⟨hks, hst⟩, hed⟩, hr⟩, hf⟩, hB'⟩ := hB
    obtain ⟨o, ho, h⟩ := h
    have h0 : ops[k]? = some o := (hl k).symm.trans ho
    have hr' : k ∈ Region.ready md ops listed := by simpa using hr
    have hy : ∃ v, YieldsM P ops Cl o v a ∧ wpMS P l ops Cl Q s (a.put o.dst v) w := by
      by_cases hw1 : Region.wanted o (yielded ops a.tmps) = true
      · rw [if_pos hw1] at h
        obtain ⟨v, h1, h2⟩ := h
        exact ⟨v, .inl ⟨hw1, h1⟩, h2⟩
      · rw [if_neg hw1] at h
        exact ⟨undef, .inr ⟨by simpa using hw1, rfl⟩, h⟩
    obtain ⟨v, hy, hK⟩ := hy
    exact wpD_first hCl h0 (Region.noSelect_spec hsel) hks s.length listed a w hw (Region.free_spec h0 hf) hr' (.inr ⟨hy, hst, edge_of hed⟩) (wpD_of_wpMS hCl hl hsel s _ _ w (inS_set _ hw) hB' hK)
  | (k, 2) :: s, listed, a, w, hw, hB, h => by
    simp only [lexMS, Bool.and_eq_true, decide_eq_true_eq] at hB
    obtain ⟨⟨⟨hks, hr⟩, hf⟩, hB'⟩ := hB
    obtain ⟨o, ho, h⟩ := h
    have h0 : ops[k]? = some o := (hl k).symm.trans ho
    have hr' : k ∈ Region.ready md ops listed := by simpa using hr
    have hy : ∃ v, YieldsM P ops (fun W : World => W) o v a ∧ wpMS P l ops Cl Q s (a.put o.dst v) w := by
      by_cases hw1 : Region.wanted o (yielded ops a.tmps) = true
      · rw [if_pos hw1] at h
        obtain ⟨v, h1, h2⟩ := h
        exact ⟨v, .inl ⟨hw1, h1⟩, h2⟩
      · rw [if_neg hw1] at h
        exact ⟨undef, .inr ⟨by simpa using hw1, rfl⟩, h⟩
    obtain ⟨v, hy, hK⟩ := hy
    exact wpD_first hCl h0 (Region.noSelect_spec hsel) hks s.length listed a w hw (Region.free_spec h0 hf) hr' (.inl hy) (wpD_of_wpMS hCl hl hsel s _ _ w (inS_set _ hw) hB' hK)
  | (k, 1) :: s, listed, a, w, hw, hB, h => by
    simp only [lexMS, Bool.and_eq_true, decide_eq_true_eq] at hB
    obtain ⟨hr, hB'⟩ := hB
    obtain ⟨o, ho, h⟩ := h
    have h0 : ops[k]? = some o := (hl k).symm.trans ho
    refine ⟨by rw [hr]; simp, fun i hi d => ?_⟩
    rw [hr] at hi
    obtain rfl : i = k := by simpa using hi
    have hd := h d
    rw [oneOp_some h0]
    split
    · rename_i hw1; rw [if_pos hw1] at hd
      exact sOp_mono (fun a' w' hk => ⟨.inr hk.1, wpD_of_wpMS hCl hl hsel s _ _ w' (.inr hk.1) hB' hk.2⟩) hd
    · rename_i hw1; rw [if_neg hw1] at hd
      exact ⟨.inr hd.1, wpD_of_wpMS hCl hl hsel s _ _ _ (.inr hd.1) hB' hd.2⟩
  | (k, 3) :: s, listed, a, w, hw, hB, h => by
    simp only [lexMS, Bool.and_eq_true, decide_eq_true_eq] at hB
    obtain ⟨⟨hst, hr⟩, hB'⟩ := hB
    obtain ⟨o, ho, h⟩ := h
    have h0 : ops[k]? = some o := (hl k).symm.trans ho
    refine ⟨by rw [hr]; simp, fun i hi d => ?_⟩
    rw [hr] at hi
    obtain rfl : i = k := by simpa using hi
    have hd := h d
    rw [oneOp_some h0]
    split
    · rename_i hw1; rw [if_pos hw1] at hd
      exact sOp_mono (fun a' w' hk => ⟨.inl hst, wpD_of_wpMS hCl hl hsel s _ _ w' (.inl hst) hB' hk⟩) hd
    · rename_i hw1; rw [if_neg hw1] at hd
      exact ⟨.inl hst, wpD_of_wpMS hCl hl hsel s _ _ _ (.inl hst) hB' hd⟩
  | (_, _ + 4) :: _, _, _, _, _, hB, _ => by simp [lexMS] at hB

/-- The law: the class ahead of the store are the worlds that extend the one at the start. -/
theorem region_mixS {id : Nat} {Q : Exit → Act → World → Prop} {a : Act} {w : World} {l : List Oper} (st : Nat) (s : List (Nat × Nat)) (hm : P.follows .mixedOrders = true) (hsel : Region.noSelect l.toArray = true)
    (hB : lexMS .any l.toArray st s (Array.replicate l.toArray.size false) = true) (hn : s.length = l.toArray.size)
    (h : wpMS P l l.toArray (fun d => bw w d) (fun a w => Q .normal a w) s a w) : (Code.region id l.toArray true).wp P Q a w := by
  refine wp_region_any hm ?_
  have := wpD_of_wpMS (md := .any) (st := st) (fun k d => ⟨_, bw_bw w k d⟩) (fun j => by simp) hsel s _ a w (.inr ⟨noExt w, (bw_noExt w).symm⟩) hB h
  have := wpD_ext (⟨#[], w.drawn + 1⟩ : Ext) this
  rw [← bw_drewExt] at this
  have := wpD_sound (Q' := Q) _ _ _ _ this
  rwa [hn] at this
theorem wpMS_quiet {Q : Act → World → Prop} {a : Act} {w : World} {i : Nat} {o : Oper} {s : List (Nat × Nat)} (ho : l[i]? = some o)
    (h : ∀ K : Act → Prop, (∀ a, wpMS P l ops Cl Q s a w → K a) → if Region.wanted o (yielded ops a.tmps) then mOp P Cl o a K else K (a.put o.dst undef)) : wpMS P l ops Cl Q ((i, 0) :: s) a w :=
  ⟨o, ho, h _ (fun _ h => h)⟩
theorem wpMS_pure {Q : Act → World → Prop} {a : Act} {w : World} {i : Nat} {o : Oper} {s : List (Nat × Nat)} (ho : l[i]? = some o)
    (h : ∀ K : Act → Prop, (∀ a, wpMS P l ops Cl Q s a w → K a) → if Region.wanted o (yielded ops a.tmps) then mOp P (fun W : World => W) o a K else K (a.put o.dst undef)) : wpMS P l ops Cl Q ((i, 2) :: s) a w :=
  ⟨o, ho, h _ (fun _ h => h)⟩
theorem wpMS_special {Q : Act → World → Prop} {a : Act} {w : World} {i : Nat} {o : Oper} {s : List (Nat × Nat)} (ho : l[i]? = some o)
    (h : ∀ (K : Act → World → Prop), (∀ a' w', (∃ k, w' = Cl k) → wpMS P l ops Cl Q s a' w' → K a' w') → ∀ d, if Region.wanted o (yielded ops a.tmps) then sOp P o a K (bw w d) else K (a.put o.dst undef) (bw w d)) : wpMS P l ops Cl Q ((i, 1) :: s) a w :=
  ⟨o, ho, fun d => by
    have := h (fun a' w' => (∃ k, w' = Cl k) ∧ wpMS P l ops Cl Q s a' w') (fun _ _ h1 h2 => ⟨h1, h2⟩) d
    split
    · rename_i hw; rw [if_pos hw] at this; exact this
    · rename_i hw; rw [if_neg hw] at this; exact this⟩
theorem wpMS_store {Q : Act → World → Prop} {a : Act} {w : World} {i : Nat} {o : Oper} {s : List (Nat × Nat)} (ho : l[i]? = some o)
    (h : ∀ (K : Act → World → Prop), (∀ a' w', wpMS P l ops Cl Q s a' w' → K a' w') → ∀ d, if Region.wanted o (yielded ops a.tmps) then sOp P o a K (bw w d) else K (a.put o.dst undef) (bw w d)) : wpMS P l ops Cl Q ((i, 3) :: s) a w :=
  ⟨o, ho, fun d => by
    have := h (fun a' w' => wpMS P l ops Cl Q s a' w') (fun _ _ h2 => h2) d
    split
    · rename_i hw; rw [if_pos hw] at this; exact this
    · rename_i hw; rw [if_neg hw] at this; exact this⟩
theorem wpMS_nil {Q : Act → World → Prop} {a : Act} {w : World} (h : ∀ d, Q a (bw w d)) : wpMS P l ops Cl Q [] a w := h
end
end Go.Proofs.Ytakcfcekdngndaa
/- Numbers of four words: values and plain laws; the carries. -/
namespace Go.Proofs.Ytakcfcekdngndaa
open Go.RowKit

/-- The word at a place. -/
def nt (l : List Nat) (i : Nat) : Nat := l.getD i 0
/-- The value of words, the most significant one first. -/
def valB (B : Nat) : List Nat → Nat
  | [] => 0
  | x :: l => x * B ^ l.length + valB B l
theorem nt_lt {l : List Nat} {i : Nat} (h : i < l.length) : l[i]? = some (nt l i) := by
  unfold nt
  simp [List.getD, h]
theorem nt_set {l : List Nat} {i j x : Nat} (h : i < l.length) : nt (l.set i x) j = if j = i then x else nt l j := by
  unfold nt
  by_cases hj : j = i
  · subst hj; simp [List.getD, h]
  · rw [if_neg hj]
    simp [List.getD, Ne.symm hj]
theorem valB_drop {B : Nat} : ∀ {l : List Nat} {i : Nat}, i < l.length → valB B (l.drop i) = nt l i * B ^ (l.length - i - 1) + valB B (l.drop (i + 1))
  | [], i, h => absurd h (Nat.not_lt_zero _)
  | x :: l, 0, _ => by
    simp only [List.drop_zero, List.drop_succ_cons, valB, nt, List.getD_cons_zero, List.length_cons]
    congr 2
  | x :: l, i + 1, h => by
    have := valB_drop (B := B) (l := l) (i := i) (by simpa using h)
    simp only [List.drop_succ_cons, List.length_cons, nt, List.getD_cons_succ] at this ⊢
    rw [this]
    congr 3
    omega
theorem valB_lt {B : Nat} (hB : 0 < B) : ∀ {l : List Nat}, (∀ x ∈ l, x < B) → valB B l < B ^ l.length
  | [], _ => by simp [valB]
  | x :: l, h => by
    have ih := valB_lt hB (l := l) (fun y hy => h y (List.mem_cons_of_mem _ hy))
    have hx := h x (List.mem_cons_self ..)
    have h2 : (x + 1) * B ^ l.length ≤ B * B ^ l.length := Nat.mul_le_mul_right _ hx
    rw [Nat.succ_mul] at h2
    simp only [valB, List.length_cons, Nat.pow_succ, Nat.mul_comm (B ^ l.length)]
    omega
theorem drop_set {l : List Nat} {i x : Nat} : (l.set i x).drop (i + 1) = l.drop (i + 1) := by
  rw [List.drop_set_of_lt (by omega)]
/-- Words. -/
structure Wd (n : Nat) (l : List Nat) : Prop where
  len : l.length = n
  lt : ∀ i, nt l i < 18446744073709551616
theorem Wd.mem {n : Nat} {l : List Nat} (h : Wd n l) : ∀ x ∈ l, x < 18446744073709551616 := fun x hx => by
  obtain ⟨i, hi, rfl⟩ := List.getElem_of_mem hx
  have := h.lt i
  unfold nt at this
  simpa [List.getD, hi] using this
theorem Wd.set {n : Nat} {l : List Nat} (h : Wd n l) {i x : Nat} (hi : i < n) (hx : x < 18446744073709551616) : Wd n (l.set i x) := by
  refine ⟨by rw [List.length_set]; exact h.len, fun j => ?_⟩
  rw [nt_set (by rw [h.len]; exact hi)]
  split
  · exact hx
  · exact h.lt j
/-- The cells of words. -/
def nuA (l : List Nat) : Array Value := (l.map fun (x : Nat) => Value.int .u64 (x : Int)).toArray
theorem nuA_get {l : List Nat} {i : Nat} (h : i < l.length) : (nuA l)[i]? = some (.int .u64 (nt l i : Int)) := by
  unfold nuA
  simp [nt_lt h]
theorem nuA_set {l : List Nat} {i x : Nat} : (nuA l).setIfInBounds i (.int .u64 (x : Int)) = nuA (l.set i x) := by
  unfold nuA
  simp [List.map_set]
/-- A number as a value. -/
def nuV (l : List Nat) : Value := .agg #[.int .u64 (nt l 0 : Int), .int .u64 (nt l 1 : Int), .int .u64 (nt l 2 : Int), .int .u64 (nt l 3 : Int)]
theorem nuA_four {l : List Nat} (h : l.length = 4) : nuA l = #[.int .u64 (nt l 0 : Int), .int .u64 (nt l 1 : Int), .int .u64 (nt l 2 : Int), .int .u64 (nt l 3 : Int)] := by
  match l, h with
  | [a, b, c, d], _ => rfl
/-- The value of a number. -/
def val4 (l : List Nat) : Nat := valB 18446744073709551616 l
theorem val4_lt {l : List Nat} (h : Wd 4 l) : val4 l < 18446744073709551616 ^ 4 := by
  have := valB_lt (B := 18446744073709551616) (by decide) h.mem
  rw [h.len] at this
  exact this

theorem add64 (x y c : Nat) (hc : c ≤ 1) (w : World) : (callFunc 104 #[.int .u64 (x : Int), .int .u64 (y : Int), .int .u64 (c : Int)]).run Try.prog w =
    .ok (.value (.tuple #[.int .u64 (((x + y + c) % 18446744073709551616 : Nat) : Int), .int .u64 (((x + y + c) / 18446744073709551616 : Nat) : Int)])) w := by
  rw [run_callFunc_extern Try.func104 (by kernel_rfl) (by kernel_rfl) (by kernel_rfl) (e := add64Entry) (by kernel_rfl), run_add64 x y c (by omega) (by omega) (by omega) (by omega)]
  simp only [Result.andThen]
  congr 5 <;> omega
theorem sub64 (x y b : Nat) (hb : b ≤ 1) (w : World) : (callFunc 106 #[.int .u64 (x : Int), .int .u64 (y : Int), .int .u64 (b : Int)]).run Try.prog w =
    .ok (.value (.tuple #[.int .u64 (((x + 18446744073709551616 - y - b) % 18446744073709551616 : Nat) : Int), .int .u64 ((if x < y + b then 1 else 0 : Nat) : Int)])) w := by
  rw [run_callFunc_extern Try.func106 (by kernel_rfl) (by kernel_rfl) (by kernel_rfl) (e := sub64Entry) (by kernel_rfl), run_sub64 x y b hb]
  rfl
/-- A difference of words: a borrow from the next place. -/
theorem sub_word {B x y b : Nat} (hx : x < B) (hy : y < B) (hb : b ≤ 1) : ∃ r c : Nat, r < B ∧ c ≤ 1 ∧ (x + B - y - b) % B = r ∧ (if x < y + b then 1 else 0) = c ∧ r + y + b = x + c * B := by
  by_cases h : x < y + b
  · refine ⟨x + B - y - b, 1, by omega, by omega, Nat.mod_eq_of_lt (by omega), if_pos h, by omega⟩
  · refine ⟨x - y - b, 0, by omega, by omega, ?_, if_neg h, by omega⟩
    rw [show x + B - y - b = x - y - b + B by omega, Nat.add_mod_right, Nat.mod_eq_of_lt (by omega)]
theorem add_word {B x y c : Nat} (hx : x < B) (hy : y < B) (hc : c ≤ 1) : ∃ r k : Nat, r < B ∧ k ≤ 1 ∧ (x + y + c) % B = r ∧ (x + y + c) / B = k ∧ r + k * B = x + y + c := by
  have h1 := Nat.div_add_mod (x + y + c) B
  have h2 := Nat.mod_lt (x + y + c) (show 0 < B by omega)
  refine ⟨_, _, h2, ?_, rfl, rfl, by rw [Nat.mul_comm]; omega⟩
  have : (x + y + c) / B < 2 := Nat.div_lt_of_lt_mul (by omega)
  omega
end Go.Proofs.Ytakcfcekdngndaa
/- Differences of numbers of four words. -/
namespace Go.Proofs.Ytakcfcekdngndaa
open Go.RowKit

/-- What a difference has below a place. -/
def LowS (B : Nat) (a b r : List Nat) (k c : Nat) : Prop := valB B (r.drop k) + valB B (b.drop k) = valB B (a.drop k) + c * B ^ (4 - k)
theorem lowS_step {B : Nat} {a b r : List Nat} {i c d c' : Nat} (ha : a.length = 4) (hb : b.length = 4) (hr : r.length = 4) (hi : i < 4) (h : LowS B a b r (i + 1) c) (e : d + nt b i + c = nt a i + c' * B) : LowS B a b (r.set i d) i c' := by
  unfold LowS at *
  rw [valB_drop (l := r.set i d) (by rw [List.length_set, hr]; exact hi), valB_drop (l := b) (by rw [hb]; exact hi), valB_drop (l := a) (by rw [ha]; exact hi), drop_set, nt_set (by rw [hr]; exact hi), if_pos rfl, List.length_set, ha, hb, hr]
  have hp : B ^ (4 - i) = B ^ (4 - i - 1) * B := by rw [← Nat.pow_succ]; congr 1; omega
  rw [hp]
  rw [show 4 - (i + 1) = 4 - i - 1 by omega] at h
  generalize B ^ (4 - i - 1) = P at *
  have e2 : (d + nt b i + c) * P = (nt a i + c' * B) * P := by rw [e]
  grind
/-- Where the difference stands. -/
structure SubI (a b r : List Nat) (k c : Nat) : Prop where
  wd : Wd 4 r
  old : ∀ j, j < k → nt r j = nt a j
  c1 : c ≤ 1
  low : LowS 18446744073709551616 a b r k c
theorem SubI.start {a b : List Nat} (ha : Wd 4 a) (hb : Wd 4 b) : SubI a b a 4 0 := ⟨ha, fun _ _ => rfl, by omega, by
  unfold LowS
  rw [List.drop_eq_nil_of_le (by rw [ha.len]; exact Nat.le_refl 4), List.drop_eq_nil_of_le (by rw [hb.len]; exact Nat.le_refl 4)]
  simp [valB]⟩
theorem SubI.step {a b r : List Nat} {i c d c' : Nat} (h : SubI a b r (i + 1) c) (ha : Wd 4 a) (hb : Wd 4 b) (hi : i < 4) (hd : d < 18446744073709551616) (hc : c' ≤ 1) (e : d + nt b i + c = nt r i + c' * 18446744073709551616) : SubI a b (r.set i d) i c' :=
  ⟨h.wd.set hi hd, fun j hj => by rw [nt_set (by rw [h.wd.len]; exact hi), if_neg (by omega)]; exact h.old j (by omega), hc, lowS_step ha.len hb.len h.wd.len hi h.low (by rw [← h.old i (by omega)]; exact e)⟩
theorem SubI.done {a b r : List Nat} {c : Nat} (h : SubI a b r 0 c) : c ≤ 1 ∧ val4 r + val4 b = val4 a + c * 18446744073709551616 ^ 4 := ⟨h.c1, by have := h.low; unfold LowS at this; simpa [val4] using this⟩

set_option maxHeartbeats 1000000 in
set_option maxRecDepth 100000 in
theorem nm_sub (a b : List Nat) (ha : Wd 4 a) (hb : Wd 4 b) (w : World) :
    Calls Try.prog 96 #[nuV a, nuV b] w fun e w' => ∃ r d, e = .returned (nuV r) ∧ w' = bw w d ∧ Wd 4 r ∧ ∃ c, c ≤ 1 ∧ val4 r + val4 b = val4 a + c * 18446744073709551616 ^ 4 := by
  refine lay_start ?_
  unfold nuV
  go_enter Try.func96, Try.ntmps96
  go_wp2_with fail
  rw [← nuA_four ha.len, ← nuA_four hb.len]
  go_loopw [5, 6] (fun v5 v6 wr => ∃ (k c : Nat) (r : List Nat) (d : Ext), k ≤ 4 ∧ v5 = .int .u64 (c : Int) ∧ v6 = .int .i64 ((k : Int) - 1) ∧ wr = lay w [.inr d, .inl (.cells #[.int .u64 0, .int .u64 0, .int .u64 0, .int .u64 0] 98 (0, 0)), .inl (.cells (nuA b) 98 (0, 0)), .inl (.cells (nuA r) 98 (0, 0))] ∧ SubI a b r k c) (fun _ v6 _ => (intOf v6 + 1).toNat)
  case atStart => exact ⟨4, 0, a, noExt _, Nat.le_refl _, rfl, rfl, (bw_noExt _).symm, SubI.start ha hb⟩
  case round =>
    obtain ⟨k, c, r, d, hk, rfl, rfl, rfl, hS⟩ := hrel
    have HS := Lib.hid hS
    rcases k with _ | i
    · rw [show ((0 : Nat) : Int) - 1 = -1 from rfl]
      have g0 := nuA_get (l := r) (i := 0) (by rw [hS.wd.len]; decide)
      have g1 := nuA_get (l := r) (i := 1) (by rw [hS.wd.len]; decide)
      have g2 := nuA_get (l := r) (i := 2) (by rw [hS.wd.len]; decide)
      have g3 := nuA_get (l := r) (i := 3) (by rw [hS.wd.len]; decide)
      clear hS
      go_wp2_with fail
      obtain ⟨dz, ez⟩ := lay_all w [.inr d, .inl (.cells #[.int .u64 (nt r 0 : Int), .int .u64 (nt r 1 : Int), .int .u64 (nt r 2 : Int), .int .u64 (nt r 3 : Int)] 98 (0, 0)), .inl (.cells (nuA b) 98 (0, 0)), .inl (.cells (nuA r) 98 (0, 0))]
      exact bodyPost_ret (v := .agg #[.int .u64 (nt r 0 : Int), .int .u64 (nt r 1 : Int), .int .u64 (nt r 2 : Int), .int .u64 (nt r 3 : Int)]) (by simp [results, Try.results96, go_sem]) rfl ⟨r, dz, rfl, ez, HS.out.wd, c, HS.out.done⟩
    · rw [show ((i + 1 : Nat) : Int) - 1 = (i : Int) by omega]
      have hi : i < 4 := by omega
      have x0 : (0 : Int) ≤ (i : Int) := by omega
      have x1 : (i : Int) < 4 := by omega
      have x2 : (i : Int).toNat = i := by omega
      obtain ⟨X, hX⟩ : ∃ X, nt r i = X := ⟨_, rfl⟩
      obtain ⟨Y, hY⟩ : ∃ Y, nt b i = Y := ⟨_, rfl⟩
      have g0 := nuA_get (l := r) (i := i) (by rw [hS.wd.len]; exact hi)
      have g1 := nuA_get (l := b) (i := i) (by rw [hb.len]; exact hi)
      rw [hX] at g0
      rw [hY] at g1
      obtain ⟨D, c', hD, hc', e1, e2, e3⟩ := sub_word (x := X) (y := Y) (b := c) (B := 18446744073709551616) (by rw [← hX]; exact hS.wd.lt i) (by rw [← hY]; exact hb.lt i) hS.c1
      have hcall := fun W => sub64 X Y c hS.c1 W
      rw [e1, e2] at hcall
      have HN := Lib.hid (hS.step ha hb hi hD hc' (by rw [hX, hY]; exact e3))
      clear hS e1 e2 e3
      have hz : c ≤ 1 := HS.out.c1
      go_wp2_with fail
      refine region_mixS 13 [(0, 2), (1, 2), (2, 2), (3, 0), (4, 2), (5, 2), (6, 0), (7, 2), (8, 2), (9, 2), (10, 2), (11, 2), (12, 2), (13, 3), (14, 2)] (by kernel_rfl) (by kernel_rfl) (by kernel_rfl) rfl ?_
      repeat (first | (refine wpMS_pure rfl (fun K hK => ?_); go_simp; refine hK _ ?_; clear hK K) | (refine wpMS_quiet rfl (fun K hK => ?_); go_simp; first | (refine hK _ ?_; clear hK K) | (apply Exists.intro; refine ⟨fun _ => ?_, hK _ ?_⟩; (first | fail); clear hK K)))
      refine wpMS_store rfl (fun K hK e1 => ?_)
      rw [lay_bw]
      go_simp
      refine hK _ _ ?_
      clear hK K
      rw [nuA_set]
      repeat (first | (refine wpMS_pure rfl (fun K hK => ?_); go_simp; refine hK _ ?_; clear hK K) | (refine wpMS_quiet rfl (fun K hK => ?_); go_simp; first | (refine hK _ ?_; clear hK K) | (apply Exists.intro; refine ⟨fun _ => ?_, hK _ ?_⟩; (first | fail); clear hK K)))
      refine wpMS_nil (fun e2 => ?_)
      rw [lay_bw]
      obtain ⟨d3, e3⟩ := lay_fold w [.inr e2, .inr e1, .inr d] [.inl (.cells #[.int .u64 0, .int .u64 0, .int .u64 0, .int .u64 0] 98 (0, 0)), .inl (.cells (nuA b) 98 (0, 0)), .inl (.cells (nuA (r.set i D)) 98 (0, 0))]
      change lay w [.inr e2, .inr e1, .inr d, .inl (.cells #[.int .u64 0, .int .u64 0, .int .u64 0, .int .u64 0] 98 (0, 0)), .inl (.cells (nuA b) 98 (0, 0)), .inl (.cells (nuA (r.set i D)) 98 (0, 0))] = _ at e3
      rw [e3]
      clear e3
      go_wp2_with fail
      go_roundw
      case rel => exact ⟨i, c', r.set i D, d3, by omega, rfl, rfl, rfl, HN.out⟩
      case measure => simp [intOf]
end Go.Proofs.Ytakcfcekdngndaa
/- Plain facts on integers: quotients rounded down and up, as Go reckons them. No program in sight. -/
namespace Go.Proofs.Ytakcfcekdngndaa
theorem floor_neg {a b : Int} (hb : 1 ≤ b) (h : a.tmod b < 0) : a.tdiv b - 1 = a / b := by
  have h1 := Int.tmod_add_mul_tdiv a b
  have h2 : -b < a.tmod b := by have := Int.lt_tmod_of_pos a (by omega : 0 < b); omega
  symm
  rw [Int.ediv_eq_iff_of_pos (by omega), Int.sub_mul, Int.mul_comm (a.tdiv b) b]
  omega
theorem floor_pos {a b : Int} (hb : 1 ≤ b) (h : 0 ≤ a.tmod b) : a.tdiv b = a / b := by
  have h1 := Int.tmod_add_mul_tdiv a b
  have h2 : a.tmod b < b := Int.tmod_lt_of_pos a (by omega)
  symm
  rw [Int.ediv_eq_iff_of_pos (by omega), Int.mul_comm (a.tdiv b) b]
  omega
theorem tdiv_bd {a b : Int} (hb : 1 ≤ b) (L : Int) (h0 : 0 ≤ L) (h1 : -L ≤ a) (h2 : a ≤ L) : -L ≤ a.tdiv b ∧ a.tdiv b ≤ L := by
  have h3 := Int.tmod_add_mul_tdiv a b
  rcases Int.lt_or_le a 0 with h | h
  · have e : a.tdiv b = -((-a) / b) := by rw [← Int.tdiv_eq_ediv_of_nonneg (by omega), Int.neg_tdiv, Int.neg_neg]
    have := Int.ediv_nonneg (show 0 ≤ -a by omega) (show 0 ≤ b by omega)
    have := Int.ediv_le_self b (show 0 ≤ -a by omega)
    omega
  · rw [Int.tdiv_eq_ediv_of_nonneg h]
    have := Int.ediv_nonneg h (show 0 ≤ b by omega)
    have := Int.ediv_le_self b h
    omega
/-- The quotient rounded up. -/
def cdiv (a b : Int) : Int := -((-a) / b)
theorem cdiv_pos {a b : Int} (hb : 1 ≤ b) (h : 0 < a.tmod b) : a.tdiv b + 1 = cdiv a b := by
  unfold cdiv
  have := floor_neg (a := -a) hb (by rw [Int.neg_tmod]; omega)
  rw [Int.neg_tdiv] at this; omega
theorem cdiv_neg {a b : Int} (hb : 1 ≤ b) (h : a.tmod b ≤ 0) : a.tdiv b = cdiv a b := by
  unfold cdiv
  have := floor_pos (a := -a) hb (by rw [Int.neg_tmod]; omega)
  rw [Int.neg_tdiv] at this; omega
theorem ediv_bd {a b : Int} (hb : 1 ≤ b) (L : Int) (h0 : 0 ≤ L) (h1 : -L ≤ a) (h2 : a ≤ L) : -L ≤ a / b ∧ a / b ≤ L := by
  constructor
  · rw [Int.le_ediv_iff_mul_le (by omega)]
    have : L * 1 ≤ L * b := Int.mul_le_mul_of_nonneg_left hb h0
    rw [Int.neg_mul]; omega
  · rcases Int.lt_or_le a 0 with h | h
    · have := Int.ediv_neg_of_neg_of_pos h (show 0 < b by omega); omega
    · have := Int.ediv_le_self b h; omega
theorem cdiv_bd {a b : Int} (hb : 1 ≤ b) (L : Int) (h0 : 0 ≤ L) (h1 : -L ≤ a) (h2 : a ≤ L) : -L ≤ cdiv a b ∧ cdiv a b ≤ L := by
  unfold cdiv
  have := ediv_bd (a := -a) hb L h0 (by omega) (by omega)
  omega
theorem tmod_wrap (n : Int) (c : Int) (hc : 1 ≤ c) : (n.tmod c < 0 → n.tmod c + c = n % c) ∧ (0 ≤ n.tmod c → n.tmod c = n % c) := by
  have h1 := Int.tmod_add_mul_tdiv n c
  have h2 := Int.emod_add_mul_ediv n c
  constructor
  · intro h
    have := floor_neg hc h
    rw [← this, Int.mul_sub] at h2; omega
  · intro h
    have := floor_pos hc h
    rw [← this] at h2; omega
theorem tmod_bd (n c : Int) (hc : 1 ≤ c) : -c < n.tmod c ∧ n.tmod c < c := by
  have := Int.lt_tmod_of_pos n (show 0 < c by omega)
  have := Int.tmod_lt_of_pos n (show 0 < c by omega)
  omega
end Go.Proofs.Ytakcfcekdngndaa
/- The quotient of two words by one, as math/bits reckons it: the plain law (Knuth's digits, of any base B). No program in sight. -/
namespace Go.Proofs.Ytakcfcekdngndaa

/-- A digit's guess and its rest. -/
structure DI (B U y1 y0 c q r : Nat) : Prop where
  eq : q * y1 + r = U
  up : U * B + c < (q + 1) * (y1 * B + y0)
  qb : q ≤ B + 1
theorem di_init {B U y1 y0 c : Nat} (h1 : B ≤ 2 * y1) (h0 : y0 < B) (hU : U < y1 * B + y0) (hc : c < B) : DI B U y1 y0 c (U / y1) (U % y1) ∧ U % y1 < y1 := by
  have hlt : U % y1 < y1 := Nat.mod_lt _ (by omega)
  have he : U / y1 * y1 + U % y1 = U := by rw [Nat.mul_comm]; exact Nat.div_add_mod U y1
  refine ⟨⟨he, ?_, ?_⟩, hlt⟩
  · have h2 : U + 1 ≤ (U / y1 + 1) * y1 := by rw [Nat.succ_mul]; omega
    have h3 : (U + 1) * B ≤ (U / y1 + 1) * y1 * B := Nat.mul_le_mul_right _ h2
    have h4 : (U / y1 + 1) * (y1 * B + y0) = (U / y1 + 1) * y1 * B + (U / y1 + 1) * y0 := by rw [Nat.mul_add, Nat.mul_assoc]
    rw [h4]
    rw [Nat.succ_mul] at h3
    generalize (U / y1 + 1) * y1 * B = A at *
    generalize (U / y1 + 1) * y0 = C at *
    generalize U * B = D at *
    omega
  · have e : y1 * (B + 2) = y1 * B + y1 * 2 := Nat.mul_add _ _ _
    have h2 : U < y1 * (B + 2) := by
      rw [e]
      generalize y1 * B = A at *
      omega
    have := Nat.div_lt_of_lt_mul h2
    omega
theorem di_step {B U y1 y0 c q r : Nat} (h : DI B U y1 y0 c q r) (hU : U < y1 * B + y0) (hc : c < B) (hcond : B ≤ q ∨ r * B + c < q * y0) : 0 < q ∧ DI B U y1 y0 c (q - 1) (r + y1) ∧ q - 1 ≤ B := by
  have hq : 0 < q := by
    rcases hcond with h1 | h1
    · omega
    · rcases Nat.eq_zero_or_pos q with e | e
      · rw [e, Nat.zero_mul] at h1; omega
      · exact e
  obtain ⟨p, rfl⟩ : ∃ p, q = p + 1 := ⟨q - 1, by omega⟩
  have he := h.eq
  rw [Nat.succ_mul] at he
  refine ⟨hq, ⟨by rw [Nat.add_sub_cancel]; omega, ?_, by have := h.qb; omega⟩, by have := h.qb; omega⟩
  rw [Nat.add_sub_cancel]
  rcases hcond with h1 | h1
  · have h2 : (U + 1) * B ≤ (y1 * B + y0) * B := Nat.mul_le_mul_right _ hU
    have h3 : B * (y1 * B + y0) ≤ (p + 1) * (y1 * B + y0) := Nat.mul_le_mul_right _ h1
    rw [Nat.succ_mul] at h2
    rw [Nat.mul_comm B] at h3
    generalize (p + 1) * (y1 * B + y0) = A at *
    generalize (y1 * B + y0) * B = C at *
    generalize U * B = D at *
    omega
  · have h4 : (p + 1) * (y1 * B + y0) = (p + 1) * y1 * B + (p + 1) * y0 := by rw [Nat.mul_add, Nat.mul_assoc]
    have h5 : U * B = (p + 1) * y1 * B + r * B := by rw [← Nat.add_mul, h.eq]
    rw [h4, h5]
    generalize (p + 1) * y1 * B = A at *
    generalize (p + 1) * y0 = C at *
    generalize r * B = D at *
    omega
theorem di_done {B U y1 y0 c q r : Nat} (h : DI B U y1 y0 c q r) (hle : q * y0 ≤ r * B + c) : (U * B + c) / (y1 * B + y0) = q ∧ q * (y1 * B + y0) ≤ U * B + c := by
  have h4 : q * (y1 * B + y0) = q * y1 * B + q * y0 := by rw [Nat.mul_add, Nat.mul_assoc]
  have h5 : U * B = q * y1 * B + r * B := by rw [← Nat.add_mul, h.eq]
  have hup := h.up
  have hle2 : q * (y1 * B + y0) ≤ U * B + c := by
    rw [h4, h5]
    generalize q * y1 * B = A at *
    generalize q * y0 = C at *
    generalize r * B = D at *
    omega
  exact ⟨Nat.div_eq_of_lt_le hle2 hup, hle2⟩
theorem di_break {B y0 c q r : Nat} (h0 : y0 < B) (hq : q ≤ B) (hr : B ≤ r) : q * y0 ≤ r * B + c :=
  Nat.le_trans (Nat.mul_le_mul hq (Nat.le_of_lt h0)) (Nat.le_trans (Nat.mul_le_mul_right B hr) (Nat.le_add_right _ _))
/-- Two digits make the quotient. -/
theorem two_digits {B U c1 c0 y : Nat} (hy : 0 < y) : ((U * B + c1) * B + c0) / y = (U * B + c1) / y * B + ((U * B + c1) % y * B + c0) / y ∧
    ((U * B + c1) * B + c0) % y = ((U * B + c1) % y * B + c0) % y := by
  have h := Nat.div_add_mod (U * B + c1) y
  generalize U * B + c1 = T at *
  have e : T * B + c0 = y * (T / y * B) + (T % y * B + c0) := by
    have h2 : T * B = y * (T / y) * B + T % y * B := by rw [← Nat.add_mul, h]
    rw [h2, ← Nat.mul_assoc, Nat.add_assoc]
  constructor
  · rw [e, Nat.mul_add_div hy]
  · rw [e, Nat.mul_add_mod]
/-- The shift of both by the same count. -/
theorem shifted (M y s : Nat) : (M * 2 ^ s) / (y * 2 ^ s) = M / y ∧ (M * 2 ^ s) % (y * 2 ^ s) / 2 ^ s = M % y := by
  have hp : 0 < 2 ^ s := Nat.pow_pos (by decide)
  constructor
  · exact Nat.mul_div_mul_right M y hp
  · rw [Nat.mul_mod_mul_right, Nat.mul_div_cancel _ hp]
end Go.Proofs.Ytakcfcekdngndaa
/- DERIVED: THE SHELF's CONTRACTS AT THIS DUMP, IN PLAIN WORDS (tools/lay-plain.mjs out of 'TryShelf.lean', which tools/lay-shelf.mjs wrote): THE SAME DECLARATIONS UNDER THE SAME NAMES: 'import', 'namespace', 'open', 'def', 'theorem' AND NOTHING ELSE: no command of the shelf's: FOR A HAND-IN. Each laying: the table of numbers ('.._ren') and one theorem, a field a fact of the dump's own or the kernel's comparison; each contract: ONE APPLICATION. -/
namespace Go.Proofs
open Go.Shelf
def Try.lays134_ren : Go.Shelf.Ren := ⟨fun | 134 => 110 | 129 => 111 | n => n, fun | 53 => 91 | 3 => 3 | 4 => 4 | 46 => 83 | 5 => 5 | 9 => 9 | n => n, fun | n => n⟩
theorem Try.lays134 : Go.Proofs.Lays.n134 Try.prog Try.lays134_ren := {
  mixed := by kernel_rfl
  f129 := Try.func111.trans (congrArg some (by kernel_rfl))
  f134 := Try.func110.trans (congrArg some (by kernel_rfl))
  t3 := Try.underlying3
  a3 := Try.isAgg3
  z3 := Try.sizeOf3
  v3 := Try.zeroValue3
  t4 := Try.underlying4
  a4 := Try.isAgg4
  z4 := Try.sizeOf4
  v4 := Try.zeroValue4
  t5 := Try.underlying5
  a5 := Try.isAgg5
  z5 := Try.sizeOf5
  v5 := Try.zeroValue5
  t9 := Try.underlying9
  a9 := Try.isAgg9
  z9 := Try.sizeOf9
  v9 := Try.zeroValue9
  t46 := Try.underlying83
  a46 := Try.isAgg83
  z46 := Try.sizeOf83
  v46 := Try.zeroValue83
  t53 := Try.underlying91
  a53 := Try.isAgg91
  z53 := Try.sizeOf91
  v53 := Try.zeroValue91 }
/-- bits.LeadingZeros64: "LeadingZeros64 returns the number of leading zero bits in x; the result is 64 for x == 0.": IT RETURNS '64 - Lib.bitLen x'; the world is as it was. ITS CALLEE bits.Len64 IS MET BY ITS OWN CONTRACT OFF THE SHELF (lay that first): entered in place it sends the kernel out of memory. (LAID: no walk: one application.) -/
theorem Try.bits_LeadingZeros64 (x : Int) (w : World) (h0 : 0 ≤ x) (h1 : x ≤ 18446744073709551615) :
    Calls Try.prog 110 #[.int .u64 x] w fun e w' => e = .returned (.int .i64 (64 - (Lib.bitLen x.toNat : Int))) ∧ w' = w := Any.bits_LeadingZeros64 Try.lays134 x w h0 h1
def Try.lays215_ren : Go.Shelf.Ren := ⟨fun | 215 => 94 | n => n, fun | 3 => 3 | 4 => 4 | n => n, fun | n => n⟩
theorem Try.lays215 : Go.Proofs.Lays.n215 Try.prog Try.lays215_ren := {
  mixed := by kernel_rfl
  f215 := Try.func94.trans (congrArg some (by kernel_rfl))
  t3 := Try.underlying3
  a3 := Try.isAgg3
  z3 := Try.sizeOf3
  v3 := Try.zeroValue3
  t4 := Try.underlying4
  a4 := Try.isAgg4
  z4 := Try.sizeOf4
  v4 := Try.zeroValue4 }
open Go.RowKit in
/-- cmp.isNaN at int: 'x != x': false. (LAID: no walk: one application.) -/
theorem Try.cmp_isNaN_int (x : Int) (w : World) :
    Calls Try.prog 94 #[.int .i64 x] w fun e w' => e = .returned (.bool false) ∧ w' = w := Any.cmp_isNaN_int Try.lays215 x w
def Try.lays122_ren : Go.Shelf.Ren := ⟨fun | 122 => 87 | 215 => 94 | n => n, fun | 3 => 3 | 4 => 4 | n => n, fun | n => n⟩
theorem Try.lays122 : Go.Proofs.Lays.n122 Try.prog Try.lays122_ren := {
  mixed := by kernel_rfl
  f122 := Try.func87.trans (congrArg some (by kernel_rfl))
  f215 := Try.func94.trans (congrArg some (by kernel_rfl))
  t3 := Try.underlying3
  a3 := Try.isAgg3
  z3 := Try.sizeOf3
  v3 := Try.zeroValue3
  t4 := Try.underlying4
  a4 := Try.isAgg4
  z4 := Try.sizeOf4
  v4 := Try.zeroValue4 }
open Go.RowKit in
/-- cmp.Compare at int: "Compare returns -1 if x is less than y, 0 if x equals y, +1 if x is greater than y.": IT RETURNS 'Lib.compareInt x y'; the world is as it was. (LAID: no walk: one application.) -/
theorem Try.cmp_Compare_int (x y : Int) (w : World) :
    Calls Try.prog 87 #[.int .i64 x, .int .i64 y] w fun e w' => e = .returned (.int .i64 (Lib.compareInt x y)) ∧ w' = w := Any.cmp_Compare_int Try.lays122 x y w
def Try.lays129_ren : Go.Shelf.Ren := ⟨fun | 129 => 111 | n => n, fun | 53 => 91 | 3 => 3 | 4 => 4 | 46 => 83 | 5 => 5 | 9 => 9 | n => n, fun | n => n⟩
theorem Try.lays129 : Go.Proofs.Lays.n129 Try.prog Try.lays129_ren := {
  mixed := by kernel_rfl
  f129 := Try.func111.trans (congrArg some (by kernel_rfl))
  t3 := Try.underlying3
  a3 := Try.isAgg3
  z3 := Try.sizeOf3
  v3 := Try.zeroValue3
  t4 := Try.underlying4
  a4 := Try.isAgg4
  z4 := Try.sizeOf4
  v4 := Try.zeroValue4
  t5 := Try.underlying5
  a5 := Try.isAgg5
  z5 := Try.sizeOf5
  v5 := Try.zeroValue5
  t9 := Try.underlying9
  a9 := Try.isAgg9
  z9 := Try.sizeOf9
  v9 := Try.zeroValue9
  t46 := Try.underlying83
  a46 := Try.isAgg83
  z46 := Try.sizeOf83
  v46 := Try.zeroValue83
  t53 := Try.underlying91
  a53 := Try.isAgg91
  z53 := Try.sizeOf91
  v53 := Try.zeroValue91 }
/-- bits.Len64: "Len64 returns the minimum number of bits required to represent x; the result is 0 for x == 0.": IT RETURNS 'Lib.bitLen x'; the world is as it was. ('h0', 'h1': x is a uint64.) (LAID: no walk: one application.) -/
theorem Try.bits_Len64 (x : Int) (w : World) (h0 : 0 ≤ x) (h1 : x ≤ 18446744073709551615) :
    Calls Try.prog 111 #[.int .u64 x] w fun e w' => e = .returned (.int .i64 (Lib.bitLen x.toNat)) ∧ w' = w := Any.bits_Len64 Try.lays129 x w h0 h1
def Try.lays264_ren : Go.Shelf.Ren := ⟨fun | 264 => 103 | n => n, fun | 53 => 91 | 46 => 83 | n => n, fun | n => n⟩
theorem Try.lays264 : Go.Proofs.Lays.n264 Try.prog Try.lays264_ren := {
  mixed := by kernel_rfl
  f264 := Try.func103.trans (congrArg some (by kernel_rfl))
  t46 := Try.underlying83
  a46 := Try.isAgg83
  z46 := Try.sizeOf83
  v46 := Try.zeroValue83
  t53 := Try.underlying91
  a53 := Try.isAgg91
  z53 := Try.sizeOf91
  v53 := Try.zeroValue91 }
open Go.RowKit Go.Lib in
theorem Try.bits_Mul64 (x y : Nat) (hx : x < 18446744073709551616) (hy : y < 18446744073709551616) (w : World) :
    Calls Try.prog 103 #[.int .u64 x, .int .u64 y] w fun e w' => e = .returned (.tuple #[.int .u64 ((x * y / 18446744073709551616 : Nat) : Int), .int .u64 ((x * y % 18446744073709551616 : Nat) : Int)]) ∧ w' = w := Any.bits_Mul64 Try.lays264 x y hx hy w
def Try.laysNm237_ren : Go.Shelf.Ren := ⟨fun | 37 => 94 | n => n, fun | 3 => 3 | 4 => 4 | n => n, fun | n => n⟩
theorem Try.laysNm237 : Go.Proofs.Lays2.n37 Try.prog Try.laysNm237_ren := {
  mixed := by kernel_rfl
  f37 := Try.func94.trans (congrArg some (by kernel_rfl))
  t3 := Try.underlying3
  a3 := Try.isAgg3
  z3 := Try.sizeOf3
  v3 := Try.zeroValue3
  t4 := Try.underlying4
  a4 := Try.isAgg4
  z4 := Try.sizeOf4
  v4 := Try.zeroValue4 }
open Go.RowKit Go.Lib in
/-- cmp.isNaN[int]: 'x != x': false. (LAID: no walk: one application.) -/
theorem Try.cmp_isNaN_int2 (x : Int) (w : World) :
    Calls Try.prog 94 #[.int .i64 x] w fun e w' => e = .returned (.bool false) ∧ w' = w := Any.cmp_isNaN_int2 Try.laysNm237 x w
end Go.Proofs
