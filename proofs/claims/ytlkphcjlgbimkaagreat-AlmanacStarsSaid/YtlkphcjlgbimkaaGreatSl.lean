/- Slices of ints that are read; rows of ints of the call's own; an append to such a row. -/
import Derived.Test.YtlkphcjlgbimkaaGreatProg
import Derived.Test.YtlkphcjlgbimkaaGreatLay
import Derived.Test.YtlkphcjlgbimkaaGreatRegion
import Derived.Test.YtlkphcjlgbimkaaGreatMix
import Derived.WalkKit
import Derived.WalkSpells
import Derived.WalkLawsBesides
import Derived.Lib.Hide
import Derived.BigQuiet
import Derived.Deep.Slices
import Derived.Deep.AppendLies
import Derived.Laws.OwnMore
import Derived.WideShapes
import Derived.Lib.SmallJoins
import Derived.Test.YtlkphcjlgbimkaaGreatAPlain
namespace Go.Proofs.YtlkphcjlgbimkaaGreat
open Go.RowKit

theorem lay_app (w : World) (A B : List (Obj ⊕ Ext)) : lay w (A ++ B) = lay (lay w B) A := by
  induction A with
  | nil => rfl
  | cons x A ih =>
    cases x with
    | inl o => exact congrArg (fun W => World.alloc W o) ih
    | inr d => exact congrArg (fun W => bw W d) ih
theorem lay_below {w : World} {A B : List (Obj ⊕ Ext)} : Below (lay w B).heap.size (lay w B) (lay w (A ++ B)) := by rw [lay_app]; exact lay_extends _ _
/-- The value is a slice that reads, in this world, as these ints. -/
def Sl (w : World) (v : Value) (l : List Int) : Prop :=
  ∃ a cap, v = .slice a l.length cap ∧ (l.length ≤ cap ∧ cap ≤ 9223372036854775807) ∧ (∀ i, i < l.length → (Lit.int .i64 (nth l i)).wf = true) ∧
    (l ≠ [] → ∃ b o, a = some ⟨b, o, none⟩ ∧ b < w.heap.size ∧ ∀ i, i < l.length → w.cell? ⟨b, o + i, none⟩ = some (.int .i64 (nth l i)))
theorem Sl.ext {w w' : World} {v : Value} {l : List Int} (h : Sl w v l) (hb : Below w.heap.size w w') : Sl w' v l := by
  obtain ⟨a, cap, h1, h2, h0, h3⟩ := h
  refine ⟨a, cap, h1, h2, h0, fun hl => ?_⟩
  obtain ⟨b, o, h4, h5, h6⟩ := h3 hl
  exact ⟨b, o, h4, Nat.lt_of_lt_of_le h5 hb.size, fun i hi => (hb.cell (p := ⟨b, o + i, none⟩) h5).trans (h6 i hi)⟩
theorem Sl.bw {w : World} {v : Value} {l : List Int} (h : Sl w v l) (d : Ext) : Sl (bw w d) v l := h.ext (bw_below w d)
theorem Sl.lay {w : World} {v : Value} {l : List Int} (h : Sl w v l) (L : List (Obj ⊕ Ext)) : Sl (lay w L) v l := h.ext (lay_extends w L)
theorem sl_on {w : World} {v : Value} {l : List Int} {A B : List (Obj ⊕ Ext)} (h : Sl (lay w B) v l) : Sl (lay w (A ++ B)) v l := h.ext lay_below
theorem Sl.nil (w : World) : Sl w (.slice none 0 0) [] := ⟨none, 0, rfl, by simp, fun i hi => absurd hi (Nat.not_lt_zero i), fun h => absurd rfl h⟩
/-- What a walk wants of a slice that is not empty. -/
theorem Sl.open {w : World} {v : Value} {l : List Int} (h : Sl w v l) (hl : 0 < l.length) :
    ∃ b o cap, v = .slice (some ⟨b, o, none⟩) l.length cap ∧ (l.length ≤ cap ∧ cap ≤ 9223372036854775807) ∧ (∀ i, i < l.length → (Lit.int .i64 (nth l i)).wf = true) ∧ b < w.heap.size ∧ ∀ i, i < l.length → w.cell? ⟨b, o + i, none⟩ = some (.int .i64 (nth l i)) := by
  obtain ⟨a, cap, rfl, h2, h0, h3⟩ := h
  obtain ⟨b, o, rfl, h5, h6⟩ := h3 (by intro e; rw [e] at hl; exact Nat.lt_irrefl 0 hl)
  exact ⟨b, o, cap, rfl, h2, h0, h5, h6⟩
theorem sl_of_fn {w : World} {a : Addr} {n cap : Nat} (hn : n ≤ cap ∧ cap ≤ 9223372036854775807) (hsp : a.spot = none) (hb : n ≠ 0 → a.block < w.heap.size) (f : Nat → Int)
    (h : ∀ i, i < n → w.cell? ⟨a.block, a.off + i, none⟩ = some (.int .i64 (f i)) ∧ (Lit.int .i64 (f i)).wf = true) :
    Sl w (.slice (some a) n cap) ((List.range n).map f) := by
  have e : ∀ i, i < n → nth ((List.range n).map f) i = f i := fun i hi => by simp [nth, List.getD, hi]
  refine ⟨some a, cap, by simp, by simpa using hn, fun i hi => ?_, fun hl => ⟨a.block, a.off, by cases a; simp_all, hb (by rintro rfl; exact hl rfl), fun i hi => ?_⟩⟩
  · have hi' : i < n := by simpa using hi
    rw [e i hi']; exact (h i hi').2
  · have hi' : i < n := by simpa using hi
    rw [e i hi']; exact (h i hi').1
theorem s_add_block1 (a : Addr) (n : Nat) : (a.add n).block = a.block := by
  unfold Addr.add; split <;> rfl
theorem s_add_none1 {a : Addr} (h : a.spot = none) (n : Nat) : a.add n = ⟨a.block, a.off + n, none⟩ := by
  unfold Addr.add
  split
  · rename_i h0
    have : n = 0 := by simpa using h0
    subst this
    cases a; simp_all
  · rfl
section
variable {H : Type} {enc : TypeId × Value → H} {P : Program}
theorem sl_of {w : World} {t e : TypeId} {fuel : Nat} {v : Value} {x : DataW H × List MemPlace} (ht : P.underlying t = some (.slice e)) (he : P.underlying e = some (.int .i64)) (hC : P.cellsOf e = 1)
    (hf : DataW.trod enc P w 0 (fun _ => true) true fuel t [v] = some x) : ∃ l, Sl w v l := by
  rcases Go.Deep.open_slice ht hf with ⟨hcs, _⟩ | ⟨a', len', cap', m, n, D, Pl, hcs, hb, hl, hm, hmm, hx, hel⟩
  · obtain rfl : v = .slice none 0 0 := by simpa using hcs
    exact ⟨[], Sl.nil w⟩
  · obtain rfl : v = .slice (some a') len' cap' := by simpa using hcs
    simp only [if_true] at hmm
    subst hmm
    obtain ⟨f, hF⟩ := Go.Deep.choose_lt (α := Int) (p := fun i y => w.cell? (a'.add i) = some (.int .i64 y) ∧ (Lit.int .i64 y).wf = true) (n := m) (fun i him => by
      obtain ⟨cs', hc', ht'⟩ := hel i him
      rw [hC] at hc'
      obtain ⟨_, hcl, hat⟩ := World.cells?_some hc'
      obtain ⟨y, rfl, _, hw⟩ := DataW.trod_int he ht'
      exact ⟨y, by simpa [Go.Deep.add_add] using hat 0 (by simp), hw⟩)
    have hspot : 0 < len' → a'.spot = none := fun hp => by
      have := (hF 0 (by omega)).1
      unfold World.cell? at this
      cases hs : a'.spot
      · rfl
      · simp [Addr.add, hs] at this
        try (split at this <;> simp at this)
    have hbl : 0 < len' → a'.block < w.heap.size := fun hp => by
      obtain ⟨cs', hc', _⟩ := hel 0 (by omega)
      rw [hC] at hc'
      have := World.cells?_block hc' (by omega)
      simpa [s_add_block1] using this
    have hM : maxLen = 9223372036854775807 := by decide
    by_cases hz : len' = 0
    · subst hz
      exact ⟨[], some a', _, rfl, ⟨hl, by omega⟩, fun i hi => absurd hi (Nat.not_lt_zero i), fun hne => absurd rfl hne⟩
    · refine ⟨_, sl_of_fn ⟨hl, by omega⟩ (hspot (by omega)) (fun _ => hbl (by omega)) f fun i hi' => ?_⟩
      have g := hF i (by omega)
      rw [s_add_none1 (hspot (by omega))] at g
      exact g
theorem sl_open {w : World} {r : Reach} {b0 : Nat} {t e : TypeId} {v : Value} {d : DataW H} {ps : List MemPlace} (ht : P.underlying t = some (.slice e)) (he : P.underlying e = some (.int .i64)) (hC : P.cellsOf e = 1)
    (hv : Value.okWide P w r b0 t v) (h : DataW.Trod enc P w 0 (fun _ => true) true t v d ps) : ∃ l, Sl w v l := by
  obtain ⟨a, len, cap, rfl⟩ := Go.WideShapes.okWide_slice ht hv
  obtain ⟨fuel, hf⟩ := h
  exact sl_of ht he hC (by simpa [Value.cells] using hf)
end

/-- The value is a row of the call's own (its blocks behind base) that holds these ints. -/
def Ow (w : World) (base : Nat) (v : Value) (l : List Int) : Prop :=
  w.ownsRow base 3 1 v l.length (l.map (Value.int .i64)) ∧ ∀ i, i < l.length → (Lit.int .i64 (nth l i)).wf = true
theorem Ow.nil (w : World) (base : Nat) : Ow w base (.slice none 0 0) [] := ⟨World.ownsRow_nil w base _ _, fun i hi => absurd hi (Nat.not_lt_zero i)⟩
theorem Ow.form {w : World} {base : Nat} {v : Value} {l : List Int} (h : Ow w base v l) : ∃ a cap, v = .slice a l.length cap := by
  rcases h.1.2 with ⟨rfl, hz⟩ | ⟨g, cap, cur, rfl, _⟩
  · exact ⟨none, 0, by rw [hz]⟩
  · exact ⟨_, cap, rfl⟩
theorem Ow.form1 {w : World} {base : Nat} {v : Value} {l : List Int} (h : Ow w base v l) (hl : 0 < l.length) : ∃ g cap, v = .slice (some ⟨g, 0, none⟩) l.length cap ∧ base ≤ g ∧ g < w.heap.size ∧ l.length ≤ cap ∧ cap ≤ 9223372036854775807 := by
  rcases h.1.2 with ⟨rfl, hz⟩ | ⟨g, cap, cur, rfl, h1, h2, h3, h4, _⟩
  · omega
  · have hM : maxLen = 9223372036854775807 := by decide
    exact ⟨g, cap, rfl, h1, (Array.getElem?_eq_some_iff.1 h2).1, h3, by omega⟩
theorem nth_getElem? {l : List Int} {i : Nat} (h : i < l.length) : l[i]? = some (nth l i) := by simp [nth, List.getD, h]
theorem Ow.cell {w : World} {base g cap n : Nat} {l : List Int} (h : Ow w base (.slice (some ⟨g, 0, none⟩) n cap) l) {i : Nat} (hi : i < l.length) : w.cell? ⟨g, i, none⟩ = some (.int .i64 (nth l i)) := by
  have h1 := h.1
  have hn : n = l.length := by
    obtain ⟨a, c, e⟩ := h.form
    cases e; rfl
  subst hn
  rw [h1.cellAt i (by omega), List.getElem?_map, nth_getElem? hi]
  rfl
theorem Ow.froz {w : World} {base g cap n : Nat} {l : List Int} (h : Ow w base (.slice (some ⟨g, 0, none⟩) n cap) l) (j : Nat) : w.frozen? ⟨g, j, none⟩ = false := by
  have hn : n = l.length := by
    obtain ⟨a, c, e⟩ := h.form
    cases e; rfl
  subst hn
  exact h.1.frozenAt j
theorem Ow.sl {w : World} {base : Nat} {v : Value} {l : List Int} (h : Ow w base v l) : Sl w v l := by
  by_cases hl : l = []
  · subst hl
    rcases h.1.2 with ⟨rfl, hz⟩ | ⟨g, cap, cur, rfl, _, _, h3, h4, _⟩
    · exact Sl.nil w
    · have hM : maxLen = 9223372036854775807 := by decide
      exact ⟨_, cap, rfl, ⟨h3, by omega⟩, h.2, fun hne => absurd rfl hne⟩
  · have hl' : 0 < l.length := List.length_pos_iff.2 hl
    obtain ⟨g, cap, rfl, h1, h2, h3⟩ := h.form1 hl'
    exact ⟨_, cap, rfl, h3, h.2, fun _ => ⟨g, 0, rfl, h2, fun i hi => by rw [Nat.zero_add]; exact h.cell hi⟩⟩
theorem Ow.ext {w w' : World} {base : Nat} {v : Value} {l : List Int} (h : Ow w base v l) (hb : Below w.heap.size w w') : Ow w' base v l := by
  refine ⟨⟨h.1.1, h.1.2.imp id ?_⟩, h.2⟩
  rintro ⟨g, cap, cur, e, h1, h2, h3⟩
  exact ⟨g, cap, cur, e, h1, (hb.block g (Array.getElem?_eq_some_iff.1 h2).1).trans h2, h3⟩
theorem Ow.lay {w : World} {base : Nat} {v : Value} {l : List Int} (h : Ow w base v l) (L : List (Obj ⊕ Ext)) : Ow (lay w L) base v l := h.ext (lay_extends w L)
theorem Ow.bw {w : World} {base : Nat} {v : Value} {l : List Int} (h : Ow w base v l) (d : Ext) : Ow (bw w d) base v l := h.ext (bw_below w d)
theorem Ow.le {w : World} {base base' : Nat} {v : Value} {l : List Int} (h : Ow w base v l) (hb : base' ≤ base) : Ow w base' v l := ⟨⟨h.1.1, h.1.2.imp id fun ⟨g, cap, cur, e, h1, h2⟩ => ⟨g, cap, cur, e, Nat.le_trans hb h1, h2⟩⟩, h.2⟩
theorem ow_on {w : World} {base : Nat} {v : Value} {l : List Int} {A B : List (Obj ⊕ Ext)} (h : Ow (lay w B) base v l) : Ow (lay w (A ++ B)) base v l := h.ext lay_below
/-- An append to such a row of an element that was just laid down. -/
theorem ow_append {l : List Int} {c : Int} (hl : ∀ i, i < l.length → (Lit.int .i64 (nth l i)).wf = true) (hc : (Lit.int .i64 c).wf = true) : ∀ i, i < (l ++ [c]).length → (Lit.int .i64 (nth (l ++ [c]) i)).wf = true := by
  intro i hi
  by_cases h : i < l.length
  · have : nth (l ++ [c]) i = nth l i := by unfold nth; simp [List.getD, List.getElem?_append, h]
    rw [this]; exact hl i h
  · have h2 : i = l.length := by simp at hi; omega
    have : nth (l ++ [c]) i = c := by unfold nth; simp [List.getD, h2]
    rw [this]; exact hc
theorem info_intS : (Tryz.prog.info? 3).map (fun i => (i.zero, i.size, i.bytes)) = some (some (.int .i64 0), 1, 8) := by kernel_rfl
theorem push_int {ops : Array Oper} {rest : List Oper} {o : Oper} {a : Act} {Q : Exit → Act → World → Prop} (hgd : o.guard = none) (s x : Operand)
    (ho : o.op = .call { callee := .builtin .append, args := #[s, x], argTypes := #[55, 55] })
    (W0 : World) (wb : World) (c : Int) (te : TypeId) (xb : Nat) (v : Value) (l : List Int) (hw : Below W0.heap.size W0 wb) (hown : Ow wb W0.heap.size v l)
    (hcell : wb.heap[xb]? = some (.cells #[.int .i64 c] te (0, 0))) (hs : a.eval s = v) (hx : a.eval x = .slice (some ⟨xb, 0, none⟩) 1 1)
    (hn : l.length ≤ 1000000000) (hc : (Lit.int .i64 c).wf = true)
    (h : ∀ v' d, Ow (Go.Proofs.YtlkphcjlgbimkaaGreat.bw W0 d) W0.heap.size v' (l ++ [c]) → wpList Tryz.prog ops Q rest (a.put o.dst v') (Go.Proofs.YtlkphcjlgbimkaaGreat.bw W0 d)) :
    wpList Tryz.prog ops Q (o :: rest) a wb := by
  obtain ⟨i, hi, hz0, hz1, hz2⟩ := info_parts info_intS
  have hM : maxLen = 9223372036854775807 := by decide
  refine wpList_append_lies wb hgd s x 55 ho W0.heap.size 3 i (.int .i64 0) 1 8 Tryz.underlying55 hi hz0 hz1 hz2 rfl (by decide) v l.length (l.map (Value.int .i64)) hs hown.1 ⟨xb, 0, none⟩ 1 1 [.int .i64 c] hx rfl (World.news_of_block (cs := #[.int .i64 c]) hcell) (by simp [Value.oneCell']) (by decide) (by omega) (by omega) hw.size wb.heap.size rfl ?_
  intro g cap w' hown' hg hat _
  obtain ⟨d, hd⟩ := bw_of (w := W0) (w' := w') (hw.grown hg hw.size (fun k hk => (hown.1.lt k hk).1))
  subst hd
  exact h _ d ⟨by simpa using hown', ow_append hown.2 hc⟩
/-- A store into such a row. -/
theorem ow_store {w : World} {base g cap n : Nat} {l : List Int} (h : Ow w base (.slice (some ⟨g, 0, none⟩) n cap) l) (j : Nat) (x : Int) (hx : (Lit.int .i64 x).wf = true) :
    Ow (w.setCell ⟨g, j, none⟩ (.int .i64 x)) base (.slice (some ⟨g, 0, none⟩) n cap) (l.set j x) := by
  have hn : n = l.length := by
    obtain ⟨a, c, e⟩ := h.form
    cases e; rfl
  subst hn
  refine ⟨by have := (h.1.stored j (.int .i64 x)).1; rw [List.length_set, List.map_set]; exact this, fun i hi => ?_⟩
  have hi' : i < l.length := by simpa using hi
  by_cases hj : j < l.length
  · rw [nth_set l j x hj]
    split
    · exact hx
    · exact h.2 i hi'
  · rw [List.set_eq_of_length_le (by omega)]; exact h.2 i hi'
/-- A row behind a block is the same whatever the block holds. -/
theorem ow_swap {w : World} {T : List (Obj ⊕ Ext)} {o : Obj} (o' : Obj) {e : Ext} {base : Nat} {v : Value} {l : List Int} (hb : (lay w T).heap.size < base)
    (h : Ow (lay w (.inr e :: .inl o :: T)) base v l) : Ow (lay w (.inr e :: .inl o' :: T)) base v l := by
  refine ⟨⟨h.1.1, h.1.2.imp id fun ⟨g, cap, cur, h1, h2, h3, h4⟩ => ⟨g, cap, cur, h1, h2, ?_, h4⟩⟩, h.2⟩
  rw [← h3]
  show ((Go.Proofs.YtlkphcjlgbimkaaGreat.lay w T).heap.push o' ++ e.blocks)[g]? = ((Go.Proofs.YtlkphcjlgbimkaaGreat.lay w T).heap.push o ++ e.blocks)[g]?
  rw [Array.getElem?_append, Array.getElem?_append, Array.size_push, Array.size_push]
  rw [if_neg (by omega), if_neg (by omega)]
theorem lay_lt (w : World) (o : Obj) (T : List (Obj ⊕ Ext)) : (Go.Proofs.YtlkphcjlgbimkaaGreat.lay w T).heap.size < (Go.Proofs.YtlkphcjlgbimkaaGreat.lay w (.inl o :: T)).heap.size := by
  show _ < (World.alloc _ o).heap.size
  rw [World.size_alloc]; exact Nat.lt_succ_self _
/-- A store behind a world's blocks leaves a world that extends it. -/
theorem bw_store {w : World} {d : Ext} {g i : Nat} {v : Value} (hg : w.heap.size ≤ g) : ∃ d', (Go.Proofs.YtlkphcjlgbimkaaGreat.bw w d).setCell ⟨g, i, none⟩ v = Go.Proofs.YtlkphcjlgbimkaaGreat.bw w d' := by
  refine bw_of ?_
  have h1 := bw_below w d
  refine ⟨h1.1, h1.2, h1.3, ?_, fun k hk => ?_⟩
  · rw [World.size_setCell]; exact h1.size
  · rw [heap_setCell_other _ ⟨g, i, none⟩ k v (by intro e; have : k = g := by simpa using e
                                                  omega)]
    exact h1.block k hk
end Go.Proofs.YtlkphcjlgbimkaaGreat
