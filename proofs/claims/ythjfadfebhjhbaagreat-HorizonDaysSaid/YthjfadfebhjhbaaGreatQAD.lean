/- Contracts and plain laws, several texts in one: Sl; Trk; Pgs; Idf -/
import Derived.Test.YthjfadfebhjhbaaGreatProg
import Derived.WalkKit
import Derived.WalkSpells
import Derived.WalkLawsBesides
import Derived.Lib.Hide
import Derived.BigQuiet
import Derived.Deep.Slices
import Derived.Deep.AppendLies
import Derived.Laws.OwnMore
import Derived.WideShapes
import Derived.Lib.SmallJoins
import Derived.Deep.Fields
import Derived.ChangeSame
import Derived.ChangeShapes
import Derived.Test.YthjfadfebhjhbaaGreatQAA
import Derived.Test.YthjfadfebhjhbaaGreatQAB
import Derived.Test.YthjfadfebhjhbaaGreatQAC
/- Slices of ints that are read; rows of ints of the call's own; an append to such a row. -/
namespace Go.Proofs.YthjfadfebhjhbaaGreat
open Go.RowKit

theorem lay_app (w : World) (A B : List (Obj ⊕ Ext)) : lay w (A ++ B) = lay (lay w B) A := by
  induction A with
  | nil => rfl
  | cons x A ih =>
    cases x with
    | inl o => exact congrArg (fun W => World.alloc W o) ih
    | inr d => exact congrArg (fun W => bw W d) ih
theorem lay_below {w : World} {A B : List (Obj ⊕ Ext)} : Below (lay w B).heap.size (lay w B) (lay w (A ++ B)) := by rw [lay_app]; exact lay_extends _ _
def Sl (w : World) (v : Value) (l : List Int) : Prop :=
  ∃ a cap, v = .slice a l.length cap ∧ (l.length ≤ cap ∧ cap ≤ 9223372036854775807) ∧ (∀ i, i < l.length → (Lit.int .i64 (nth l i)).wf = true) ∧
    (l ≠ [] → ∃ b o, a = some ⟨b, o, none⟩ ∧ b < w.heap.size ∧ ∀ i, i < l.length → w.cell? ⟨b, o + i, none⟩ = some (.int .i64 (nth l i)))
theorem Sl.ext {w w' : World} {v : Value} {l : List Int} (h : Sl w v l) (hb : Below w.heap.size w w') : Sl w' v l := by
  obtain ⟨a, cap, h1, h2, h0, h3⟩ := h
  refine ⟨a, cap, h1, h2, h0, fun hl => ?_⟩
  obtain ⟨b, o, h4, h5, h6⟩ := h3 hl
  exact ⟨b, o, h4, Nat.lt_of_lt_of_le h5 hb.size, fun i hi => (hb.cell (p := ⟨b, o + i, none⟩) h5).trans (h6 i hi)⟩
theorem Sl.bw {w : World} {v : Value} {l : List Int} (h : Sl w v l) (d : Ext) : Sl (bw w d) v l := h.ext (bw_below w d)
theorem Sl.lay {w : World} {v : Value} {l : List Int} (h : Sl w v l) (L : List (Obj ⊕ Ext)) : Sl (lay w L) v l := h.ext (lay_extends w L)
theorem sl_on {w : World} {v : Value} {l : List Int} {A B : List (Obj ⊕ Ext)} (h : Sl (lay w B) v l) : Sl (lay w (A ++ B)) v l := h.ext lay_below
theorem Sl.nil (w : World) : Sl w (.slice none 0 0) [] := ⟨none, 0, rfl, by simp, fun i hi => absurd hi (Nat.not_lt_zero i), fun h => absurd rfl h⟩
theorem Sl.open {w : World} {v : Value} {l : List Int} (h : Sl w v l) (hl : 0 < l.length) :
    ∃ b o cap, v = .slice (some ⟨b, o, none⟩) l.length cap ∧ (l.length ≤ cap ∧ cap ≤ 9223372036854775807) ∧ (∀ i, i < l.length → (Lit.int .i64 (nth l i)).wf = true) ∧ b < w.heap.size ∧ ∀ i, i < l.length → w.cell? ⟨b, o + i, none⟩ = some (.int .i64 (nth l i)) := by
  obtain ⟨a, cap, rfl, h2, h0, h3⟩ := h
  obtain ⟨b, o, rfl, h5, h6⟩ := h3 (by intro e; rw [e] at hl; exact Nat.lt_irrefl 0 hl)
  exact ⟨b, o, cap, rfl, h2, h0, h5, h6⟩
theorem sl_of_fn {w : World} {a : Addr} {n cap : Nat} (hn : n ≤ cap ∧ cap ≤ 9223372036854775807) (hsp : a.spot = none) (hb : n ≠ 0 → a.block < w.heap.size) (f : Nat → Int)
    (h : ∀ i, i < n → w.cell? ⟨a.block, a.off + i, none⟩ = some (.int .i64 (f i)) ∧ (Lit.int .i64 (f i)).wf = true) :
    Sl w (.slice (some a) n cap) ((List.range n).map f) := by
  have e : ∀ i, i < n → nth ((List.range n).map f) i = f i := fun i hi => by simp [nth, List.getD, hi]
  refine ⟨some a, cap, by simp, by simpa using hn, fun i hi => ?_, fun hl => ⟨a.block, a.off, by cases a; simp_all, hb (by rintro rfl; exact hl rfl), fun i hi => ?_⟩⟩
  · have hi' : i < n := by simpa using hi
    rw [e i hi']; exact (h i hi').2
  · have hi' : i < n := by simpa using hi
    rw [e i hi']; exact (h i hi').1
theorem s_add_block1 (a : Addr) (n : Nat) : (a.add n).block = a.block := by
  unfold Addr.add; split <;> rfl
theorem s_add_none1 {a : Addr} (h : a.spot = none) (n : Nat) : a.add n = ⟨a.block, a.off + n, none⟩ := by
  unfold Addr.add
  split
  · rename_i h0
    have : n = 0 := by simpa using h0
    subst this
    cases a; simp_all
  · rfl
section
variable {H : Type} {enc : TypeId × Value → H} {P : Program}
theorem sl_of {w : World} {t e : TypeId} {fuel : Nat} {v : Value} {x : DataW H × List MemPlace} (ht : P.underlying t = some (.slice e)) (he : P.underlying e = some (.int .i64)) (hC : P.cellsOf e = 1)
    (hf : DataW.trod enc P w 0 (fun _ => true) true fuel t [v] = some x) : ∃ l, Sl w v l := by
  rcases Go.Deep.open_slice ht hf with ⟨hcs, _⟩ | ⟨a', len', cap', m, n, D, Pl, hcs, hb, hl, hm, hmm, hx, hel⟩
  · obtain rfl : v = .slice none 0 0 := by simpa using hcs
    exact ⟨[], Sl.nil w⟩
  · obtain rfl : v = .slice (some a') len' cap' := by simpa using hcs
    simp only [if_true] at hmm
    subst hmm
    obtain ⟨f, hF⟩ := Go.Deep.choose_lt (α := Int) (p := fun i y => w.cell? (a'.add i) = some (.int .i64 y) ∧ (Lit.int .i64 y).wf = true) (n := m) (fun i him => by
      obtain ⟨cs', hc', ht'⟩ := hel i him
      rw [hC] at hc'
      obtain ⟨_, hcl, hat⟩ := World.cells?_some hc'
      obtain ⟨y, rfl, _, hw⟩ := DataW.trod_int he ht'
      exact ⟨y, by simpa [Go.Deep.add_add] using hat 0 (by simp), hw⟩)
    have hspot : 0 < len' → a'.spot = none := fun hp => by
      have := (hF 0 (by omega)).1
      unfold World.cell? at this
      cases hs : a'.spot
      · rfl
      · simp [Addr.add, hs] at this
        try (split at this <;> simp at this)
    have hbl : 0 < len' → a'.block < w.heap.size := fun hp => by
      obtain ⟨cs', hc', _⟩ := hel 0 (by omega)
      rw [hC] at hc'
      have := World.cells?_block hc' (by omega)
      simpa [s_add_block1] using this
    have hM : maxLen = 9223372036854775807 := by decide
    by_cases hz : len' = 0
    · subst hz
      exact ⟨[], some a', _, rfl, ⟨hl, by omega⟩, fun i hi => absurd hi (Nat.not_lt_zero i), fun hne => absurd rfl hne⟩
    · refine ⟨_, sl_of_fn ⟨hl, by omega⟩ (hspot (by omega)) (fun _ => hbl (by omega)) f fun i hi' => ?_⟩
      have g := hF i (by omega)
      rw [s_add_none1 (hspot (by omega))] at g
      exact g
end

def Ow (w : World) (base : Nat) (v : Value) (l : List Int) : Prop :=
  w.ownsRow base 3 1 v l.length (l.map (Value.int .i64)) ∧ ∀ i, i < l.length → (Lit.int .i64 (nth l i)).wf = true
theorem Ow.nil (w : World) (base : Nat) : Ow w base (.slice none 0 0) [] := ⟨World.ownsRow_nil w base _ _, fun i hi => absurd hi (Nat.not_lt_zero i)⟩
theorem Ow.form {w : World} {base : Nat} {v : Value} {l : List Int} (h : Ow w base v l) : ∃ a cap, v = .slice a l.length cap := by
  rcases h.1.2 with ⟨rfl, hz⟩ | ⟨g, cap, cur, rfl, _⟩
  · exact ⟨none, 0, by rw [hz]⟩
  · exact ⟨_, cap, rfl⟩
theorem Ow.form1 {w : World} {base : Nat} {v : Value} {l : List Int} (h : Ow w base v l) (hl : 0 < l.length) : ∃ g cap, v = .slice (some ⟨g, 0, none⟩) l.length cap ∧ base ≤ g ∧ g < w.heap.size ∧ l.length ≤ cap ∧ cap ≤ 9223372036854775807 := by
  rcases h.1.2 with ⟨rfl, hz⟩ | ⟨g, cap, cur, rfl, h1, h2, h3, h4, _⟩
  · omega
  · have hM : maxLen = 9223372036854775807 := by decide
    exact ⟨g, cap, rfl, h1, (Array.getElem?_eq_some_iff.1 h2).1, h3, by omega⟩
theorem nth_getElem? {l : List Int} {i : Nat} (h : i < l.length) : l[i]? = some (nth l i) := by simp [nth, List.getD, h]
theorem Ow.cell {w : World} {base g cap n : Nat} {l : List Int} (h : Ow w base (.slice (some ⟨g, 0, none⟩) n cap) l) {i : Nat} (hi : i < l.length) : w.cell? ⟨g, i, none⟩ = some (.int .i64 (nth l i)) := by
  have h1 := h.1
  have hn : n = l.length := by
    obtain ⟨a, c, e⟩ := h.form
    cases e; rfl
  subst hn
  rw [h1.cellAt i (by omega), List.getElem?_map, nth_getElem? hi]
  rfl
theorem Ow.froz {w : World} {base g cap n : Nat} {l : List Int} (h : Ow w base (.slice (some ⟨g, 0, none⟩) n cap) l) (j : Nat) : w.frozen? ⟨g, j, none⟩ = false := by
  have hn : n = l.length := by
    obtain ⟨a, c, e⟩ := h.form
    cases e; rfl
  subst hn
  exact h.1.frozenAt j
theorem Ow.sl {w : World} {base : Nat} {v : Value} {l : List Int} (h : Ow w base v l) : Sl w v l := by
  by_cases hl : l = []
  · subst hl
    rcases h.1.2 with ⟨rfl, hz⟩ | ⟨g, cap, cur, rfl, _, _, h3, h4, _⟩
    · exact Sl.nil w
    · have hM : maxLen = 9223372036854775807 := by decide
      exact ⟨_, cap, rfl, ⟨h3, by omega⟩, h.2, fun hne => absurd rfl hne⟩
  · have hl' : 0 < l.length := List.length_pos_iff.2 hl
    obtain ⟨g, cap, rfl, h1, h2, h3⟩ := h.form1 hl'
    exact ⟨_, cap, rfl, h3, h.2, fun _ => ⟨g, 0, rfl, h2, fun i hi => by rw [Nat.zero_add]; exact h.cell hi⟩⟩
theorem Ow.ext {w w' : World} {base : Nat} {v : Value} {l : List Int} (h : Ow w base v l) (hb : Below w.heap.size w w') : Ow w' base v l := by
  refine ⟨⟨h.1.1, h.1.2.imp id ?_⟩, h.2⟩
  rintro ⟨g, cap, cur, e, h1, h2, h3⟩
  exact ⟨g, cap, cur, e, h1, (hb.block g (Array.getElem?_eq_some_iff.1 h2).1).trans h2, h3⟩
theorem Ow.lay {w : World} {base : Nat} {v : Value} {l : List Int} (h : Ow w base v l) (L : List (Obj ⊕ Ext)) : Ow (lay w L) base v l := h.ext (lay_extends w L)
theorem Ow.bw {w : World} {base : Nat} {v : Value} {l : List Int} (h : Ow w base v l) (d : Ext) : Ow (bw w d) base v l := h.ext (bw_below w d)
theorem Ow.le {w : World} {base base' : Nat} {v : Value} {l : List Int} (h : Ow w base v l) (hb : base' ≤ base) : Ow w base' v l := ⟨⟨h.1.1, h.1.2.imp id fun ⟨g, cap, cur, e, h1, h2⟩ => ⟨g, cap, cur, e, Nat.le_trans hb h1, h2⟩⟩, h.2⟩
theorem ow_on {w : World} {base : Nat} {v : Value} {l : List Int} {A B : List (Obj ⊕ Ext)} (h : Ow (lay w B) base v l) : Ow (lay w (A ++ B)) base v l := h.ext lay_below
theorem ow_append {l : List Int} {c : Int} (hl : ∀ i, i < l.length → (Lit.int .i64 (nth l i)).wf = true) (hc : (Lit.int .i64 c).wf = true) : ∀ i, i < (l ++ [c]).length → (Lit.int .i64 (nth (l ++ [c]) i)).wf = true := by
  intro i hi
  by_cases h : i < l.length
  · have : nth (l ++ [c]) i = nth l i := by unfold nth; simp [List.getD, List.getElem?_append, h]
    rw [this]; exact hl i h
  · have h2 : i = l.length := by simp at hi; omega
    have : nth (l ++ [c]) i = c := by unfold nth; simp [List.getD, h2]
    rw [this]; exact hc
theorem info_intS : (Tryz.prog.info? 3).map (fun i => (i.zero, i.size, i.bytes)) = some (some (.int .i64 0), 1, 8) := by kernel_rfl
theorem push_int {ops : Array Oper} {rest : List Oper} {o : Oper} {a : Act} {Q : Exit → Act → World → Prop} (hgd : o.guard = none) (s x : Operand)
    (ho : o.op = .call { callee := .builtin .append, args := #[s, x], argTypes := #[96, 96] })
    (W0 : World) (wb : World) (c : Int) (te : TypeId) (xb : Nat) (v : Value) (l : List Int) (hw : Below W0.heap.size W0 wb) (hown : Ow wb W0.heap.size v l)
    (hcell : wb.heap[xb]? = some (.cells #[.int .i64 c] te (0, 0))) (hs : a.eval s = v) (hx : a.eval x = .slice (some ⟨xb, 0, none⟩) 1 1)
    (hn : l.length ≤ 1000000000) (hc : (Lit.int .i64 c).wf = true)
    (h : ∀ v' d, Ow (Go.Proofs.YthjfadfebhjhbaaGreat.bw W0 d) W0.heap.size v' (l ++ [c]) → wpList Tryz.prog ops Q rest (a.put o.dst v') (Go.Proofs.YthjfadfebhjhbaaGreat.bw W0 d)) :
    wpList Tryz.prog ops Q (o :: rest) a wb := by
  obtain ⟨i, hi, hz0, hz1, hz2⟩ := info_parts info_intS
  have hM : maxLen = 9223372036854775807 := by decide
  refine wpList_append_lies wb hgd s x 96 ho W0.heap.size 3 i (.int .i64 0) 1 8 Tryz.underlying96 hi hz0 hz1 hz2 rfl (by decide) v l.length (l.map (Value.int .i64)) hs hown.1 ⟨xb, 0, none⟩ 1 1 [.int .i64 c] hx rfl (World.news_of_block (cs := #[.int .i64 c]) hcell) (by simp [Value.oneCell']) (by decide) (by omega) (by omega) hw.size wb.heap.size rfl ?_
  intro g cap w' hown' hg hat _
  obtain ⟨d, hd⟩ := bw_of (w := W0) (w' := w') (hw.grown hg hw.size (fun k hk => (hown.1.lt k hk).1))
  subst hd
  exact h _ d ⟨by simpa using hown', ow_append hown.2 hc⟩
theorem ow_store {w : World} {base g cap n : Nat} {l : List Int} (h : Ow w base (.slice (some ⟨g, 0, none⟩) n cap) l) (j : Nat) (x : Int) (hx : (Lit.int .i64 x).wf = true) :
    Ow (w.setCell ⟨g, j, none⟩ (.int .i64 x)) base (.slice (some ⟨g, 0, none⟩) n cap) (l.set j x) := by
  have hn : n = l.length := by
    obtain ⟨a, c, e⟩ := h.form
    cases e; rfl
  subst hn
  refine ⟨by have := (h.1.stored j (.int .i64 x)).1; rw [List.length_set, List.map_set]; exact this, fun i hi => ?_⟩
  have hi' : i < l.length := by simpa using hi
  by_cases hj : j < l.length
  · rw [nth_set l j x hj]
    split
    · exact hx
    · exact h.2 i hi'
  · rw [List.set_eq_of_length_le (by omega)]; exact h.2 i hi'
theorem bw_store {w : World} {d : Ext} {g i : Nat} {v : Value} (hg : w.heap.size ≤ g) : ∃ d', (Go.Proofs.YthjfadfebhjhbaaGreat.bw w d).setCell ⟨g, i, none⟩ v = Go.Proofs.YthjfadfebhjhbaaGreat.bw w d' := by
  refine bw_of ?_
  have h1 := bw_below w d
  refine ⟨h1.1, h1.2, h1.3, ?_, fun k hk => ?_⟩
  · rw [World.size_setCell]; exact h1.size
  · rw [heap_setCell_other _ ⟨g, i, none⟩ k v (by intro e; have : k = g := by simpa using e
                                                  omega)]
    exact h1.block k hk
end Go.Proofs.YthjfadfebhjhbaaGreat
/- Lists of ints and tracks that came in: how they read; opening them off a row. -/
namespace Go.Proofs.YthjfadfebhjhbaaGreat
open Go.RowKit

def Lst (w : World) (v : Value) (l : List Int) : Prop :=
  ∃ a cap, v = .slice a l.length cap ∧ l.length ≤ 9223372036854775807 ∧ (∀ i, i < l.length → (Lit.int .i64 (l.getD i 0)).wf = true) ∧
    (l ≠ [] → ∃ b o, a = some ⟨b, o, none⟩ ∧ b < w.heap.size ∧ ∀ i, i < l.length → w.cell? ⟨b, o + i, none⟩ = some (.int .i64 (l.getD i 0)))
theorem Lst.bw {w : World} {v : Value} {l : List Int} (h : Lst w v l) (d : Ext) : Lst (bw w d) v l := by
  obtain ⟨a, cap, h1, h2, h0, h3⟩ := h
  refine ⟨a, cap, h1, h2, h0, fun hl => ?_⟩
  obtain ⟨b, o, h4, h5, h6⟩ := h3 hl
  exact ⟨b, o, h4, Nat.lt_of_lt_of_le h5 (bw_le w d), fun i hi => (bw_cell w d b (o + i) h5).trans (h6 i hi)⟩
theorem Lst.lay {w : World} {v : Value} {l : List Int} (h : Lst w v l) (L : List (Obj ⊕ Ext)) : Lst (lay w L) v l := by
  obtain ⟨d, hd⟩ := lay_ex w L
  rw [hd]; exact h.bw d
section
variable {H : Type} {enc : TypeId × Value → H} {P : Program}
structure TrkV where
  s : ByteArray
  g : List Int
  d : List Int
  p : Int
  q : Int
  r : Int
def Trk (w : World) (v : Value) (t : TrkV) : Prop :=
  ∃ vg vd, v = .agg #[.string t.s, vg, vd, .int .i64 t.p, .int .i64 t.q, .int .i64 t.r] ∧ t.s.size ≤ 9223372036854775807 ∧ Lst w vg t.g ∧ Lst w vd t.d ∧
    (Lit.int .i64 t.p).wf = true ∧ (Lit.int .i64 t.q).wf = true ∧ (Lit.int .i64 t.r).wf = true
theorem Trk.lay {w : World} {v : Value} {t : TrkV} (h : Trk w v t) (L : List (Obj ⊕ Ext)) : Trk (lay w L) v t := by
  obtain ⟨vg, vd, h1, h0, h2, h3, h4⟩ := h
  exact ⟨vg, vd, h1, h0, h2.lay L, h3.lay L, h4⟩
end
end Go.Proofs.YthjfadfebhjhbaaGreat
/- Tracks and pages in memory: rows of records whose cells hold slices; what lies where ('P' of the blocks). -/
namespace Go.Proofs.YthjfadfebhjhbaaGreat
open Go.RowKit

structure TkW where
  s : ByteArray
  ga : Option Addr
  gn : Nat
  gc : Nat
  da : Option Addr
  dn : Nat
  dc : Nat
  p : Int
  q : Int
  r : Int
def tkR : RecT TkW := { E := 126, S := 136, k := 6, bytes := 88, enc := fun x => [.string x.s, .slice x.ga x.gn x.gc, .slice x.da x.dn x.dc, .int .i64 x.p, .int .i64 x.q, .int .i64 x.r], wf := fun x => x.s.size ≤ 9223372036854775807 ∧ (Lit.int .i64 x.p).wf = true ∧ (Lit.int .i64 x.q).wf = true ∧ (Lit.int .i64 x.r).wf = true }
theorem info_tk : (Tryz.prog.info? 126).map (fun i => (i.zero.map (fun z => z.cells.size), i.size, i.bytes)) = some (some 6, 6, 88) := by kernel_rfl
theorem tkOk : RecOk tkR where
  len _ := rfl
  one x u hu := by
    simp only [tkR, List.mem_cons, List.not_mem_nil, or_false] at hu
    rcases hu with rfl | rfl | rfl | rfl | rfl | rfl <;> rfl
  pos := by decide
  und := Tryz.underlying136
  info := recInfo info_tk
  small := by decide
structure PgW where
  y : Int
  m : Int
  d : Int
  ta : Option Addr
  tn : Nat
  tc : Nat
def pgR : RecT PgW := { E := 138, S := 22, k := 4, bytes := 48, enc := fun x => [.int .i64 x.y, .int .i64 x.m, .int .i64 x.d, .slice x.ta x.tn x.tc], wf := fun x => (Lit.int .i64 x.y).wf = true ∧ (Lit.int .i64 x.m).wf = true ∧ (Lit.int .i64 x.d).wf = true }
theorem info_pg : (Tryz.prog.info? 138).map (fun i => (i.zero.map (fun z => z.cells.size), i.size, i.bytes)) = some (some 4, 4, 48) := by kernel_rfl
theorem pgOk : RecOk pgR where
  len _ := rfl
  one x u hu := by
    simp only [pgR, List.mem_cons, List.not_mem_nil, or_false] at hu
    rcases hu with rfl | rfl | rfl | rfl <;> rfl
  pos := by decide
  und := Tryz.underlying22
  info := recInfo info_pg
  small := by decide

structure PgV where
  y : Int
  m : Int
  d : Int
  ts : List TrkV
def Blk (P : Nat → Prop) (v : Value) : Prop := ∀ b o n c, v = .slice (some ⟨b, o, none⟩) n c → 0 < n → P b
def LsP (P : Nat → Prop) (w : World) (v : Value) (l : List Int) : Prop := Sl w v l ∧ Blk P v
structure TkD (P : Nat → Prop) (w : World) (x : TkW) (t : TrkV) : Prop where
  s : x.s = t.s
  g : LsP P w (.slice x.ga x.gn x.gc) t.g
  d : LsP P w (.slice x.da x.dn x.dc) t.d
  p : x.p = t.p
  q : x.q = t.q
  r : x.r = t.r
def TksD (P : Nat → Prop) (w : World) (v : Value) (l : List TrkV) : Prop :=
  ∃ ls, SlG tkR w v ls ∧ Blk P v ∧ ls.length = l.length ∧ ∀ (i : Nat) x t, ls[i]? = some x → l[i]? = some t → TkD P w x t
structure PgD (P : Nat → Prop) (w : World) (x : PgW) (p : PgV) : Prop where
  y : x.y = p.y
  m : x.m = p.m
  d : x.d = p.d
  ts : TksD P w (.slice x.ta x.tn x.tc) p.ts
def PgsD (P : Nat → Prop) (w : World) (v : Value) (l : List PgV) : Prop :=
  ∃ ls, SlG pgR w v ls ∧ Blk P v ∧ ls.length = l.length ∧ ∀ (i : Nat) x p, ls[i]? = some x → l[i]? = some p → PgD P w x p

theorem Blk.mono {P Q : Nat → Prop} {v : Value} (h : Blk P v) (hPQ : ∀ b, P b → Q b) : Blk Q v := fun b o n c e hn => hPQ b (h b o n c e hn)
theorem cell_keep {w w' : World} {b i : Nat} (h : w'.heap[b]? = w.heap[b]?) : w'.cell? ⟨b, i, none⟩ = w.cell? ⟨b, i, none⟩ := by unfold World.cell?; rw [h]
theorem LsP.keep {P : Nat → Prop} {w w' : World} {v : Value} {l : List Int} (h : LsP P w v l) (hs : w.heap.size ≤ w'.heap.size) (hk : ∀ b, P b → b < w.heap.size → w'.heap[b]? = w.heap[b]?) : LsP P w' v l := by
  refine ⟨?_, h.2⟩
  obtain ⟨a, c, rfl, h2, h3, h4⟩ := h.1
  refine ⟨a, c, rfl, h2, h3, fun hl => ?_⟩
  obtain ⟨b, o, rfl, h5, h6⟩ := h4 hl
  exact ⟨b, o, rfl, Nat.lt_of_lt_of_le h5 hs, fun i hi => (cell_keep (hk b (h.2 b o _ _ rfl (List.length_pos_iff.2 hl)) h5)).trans (h6 i hi)⟩
theorem slG_keep {α : Type} {R : RecT α} {P : Nat → Prop} {w w' : World} {v : Value} {l : List α} (h : SlG R w v l) (hb : Blk P v) (hs : w.heap.size ≤ w'.heap.size) (hk : ∀ b, P b → b < w.heap.size → w'.heap[b]? = w.heap[b]?) : SlG R w' v l := by
  obtain ⟨a, c, rfl, h2, h3, h4⟩ := h
  refine ⟨a, c, rfl, h2, h3, fun hl => ?_⟩
  obtain ⟨b, o, rfl, h5, h6⟩ := h4 hl
  exact ⟨b, o, rfl, Nat.lt_of_lt_of_le h5 hs, fun i x hx j u hu => (cell_keep (hk b (hb b o _ _ rfl (List.length_pos_iff.2 hl)) h5)).trans (h6 i x hx j u hu)⟩
theorem TkD.keep {P : Nat → Prop} {w w' : World} {x : TkW} {t : TrkV} (h : TkD P w x t) (hs : w.heap.size ≤ w'.heap.size) (hk : ∀ b, P b → b < w.heap.size → w'.heap[b]? = w.heap[b]?) : TkD P w' x t :=
  ⟨h.s, h.g.keep hs hk, h.d.keep hs hk, h.p, h.q, h.r⟩
theorem TksD.keep {P : Nat → Prop} {w w' : World} {v : Value} {l : List TrkV} (h : TksD P w v l) (hs : w.heap.size ≤ w'.heap.size) (hk : ∀ b, P b → b < w.heap.size → w'.heap[b]? = w.heap[b]?) : TksD P w' v l := by
  obtain ⟨ls, h1, h2, h3, h4⟩ := h
  exact ⟨ls, slG_keep h1 h2 hs hk, h2, h3, fun i x t hx ht => (h4 i x t hx ht).keep hs hk⟩
theorem PgD.keep {P : Nat → Prop} {w w' : World} {x : PgW} {t : PgV} (h : PgD P w x t) (hs : w.heap.size ≤ w'.heap.size) (hk : ∀ b, P b → b < w.heap.size → w'.heap[b]? = w.heap[b]?) : PgD P w' x t :=
  ⟨h.y, h.m, h.d, h.ts.keep hs hk⟩
theorem PgsD.keep {P : Nat → Prop} {w w' : World} {v : Value} {l : List PgV} (h : PgsD P w v l) (hs : w.heap.size ≤ w'.heap.size) (hk : ∀ b, P b → b < w.heap.size → w'.heap[b]? = w.heap[b]?) : PgsD P w' v l := by
  obtain ⟨ls, h1, h2, h3, h4⟩ := h
  exact ⟨ls, slG_keep h1 h2 hs hk, h2, h3, fun i x t hx ht => (h4 i x t hx ht).keep hs hk⟩
theorem LsP.mono {P Q : Nat → Prop} {w : World} {v : Value} {l : List Int} (h : LsP P w v l) (hPQ : ∀ b, P b → Q b) : LsP Q w v l := ⟨h.1, h.2.mono hPQ⟩
theorem TkD.mono {P Q : Nat → Prop} {w : World} {x : TkW} {t : TrkV} (h : TkD P w x t) (hPQ : ∀ b, P b → Q b) : TkD Q w x t := ⟨h.s, h.g.mono hPQ, h.d.mono hPQ, h.p, h.q, h.r⟩
theorem TksD.mono {P Q : Nat → Prop} {w : World} {v : Value} {l : List TrkV} (h : TksD P w v l) (hPQ : ∀ b, P b → Q b) : TksD Q w v l := by
  obtain ⟨ls, h1, h2, h3, h4⟩ := h
  exact ⟨ls, h1, h2.mono hPQ, h3, fun i x t hx ht => (h4 i x t hx ht).mono hPQ⟩
theorem PgD.mono {P Q : Nat → Prop} {w : World} {x : PgW} {t : PgV} (h : PgD P w x t) (hPQ : ∀ b, P b → Q b) : PgD Q w x t := ⟨h.y, h.m, h.d, h.ts.mono hPQ⟩
theorem PgsD.mono {P Q : Nat → Prop} {w : World} {v : Value} {l : List PgV} (h : PgsD P w v l) (hPQ : ∀ b, P b → Q b) : PgsD Q w v l := by
  obtain ⟨ls, h1, h2, h3, h4⟩ := h
  exact ⟨ls, h1, h2.mono hPQ, h3, fun i x t hx ht => (h4 i x t hx ht).mono hPQ⟩
theorem PgsD.lay {P : Nat → Prop} {w : World} {v : Value} {l : List PgV} (h : PgsD P w v l) (L : List (Obj ⊕ Ext)) : PgsD P (lay w L) v l := h.keep (lay_extends w L).size (fun b _ hb => (lay_extends w L).block b hb)
theorem TksD.lay {P : Nat → Prop} {w : World} {v : Value} {l : List TrkV} (h : TksD P w v l) (L : List (Obj ⊕ Ext)) : TksD P (lay w L) v l := h.keep (lay_extends w L).size (fun b _ hb => (lay_extends w L).block b hb)
theorem TkD.lay {P : Nat → Prop} {w : World} {x : TkW} {t : TrkV} (h : TkD P w x t) (L : List (Obj ⊕ Ext)) : TkD P (lay w L) x t := h.keep (lay_extends w L).size (fun b _ hb => (lay_extends w L).block b hb)
theorem LsP.lay {P : Nat → Prop} {w : World} {v : Value} {l : List Int} (h : LsP P w v l) (L : List (Obj ⊕ Ext)) : LsP P (lay w L) v l := h.keep (lay_extends w L).size (fun b _ hb => (lay_extends w L).block b hb)
theorem Sl.lst {w : World} {v : Value} {l : List Int} (h : Sl w v l) : Lst w v l := by
  obtain ⟨a, c, h1, h2, h3, h4⟩ := h
  exact ⟨a, c, h1, Nat.le_trans h2.1 h2.2, h3, h4⟩
theorem TkD.trk {P : Nat → Prop} {w : World} {x : TkW} {t : TrkV} (h : TkD P w x t) (hw : tkR.wf x) : Trk w (.agg (tkR.enc x).toArray) t := by
  obtain ⟨xs, ga, gn, gc, da, dn, dc, p, q, r⟩ := x
  obtain ⟨h1, h2, h3, h4, h5, h6⟩ := h
  obtain ⟨w1, w2, w3, w4⟩ := hw
  dsimp only at h1 h2 h3 h4 h5 h6 w1 w2 w3 w4
  subst h1 h4 h5 h6
  exact ⟨_, _, rfl, w1, h2.1.lst, h3.1.lst, w2, w3, w4⟩
end Go.Proofs.YthjfadfebhjhbaaGreat
/- slices.IndexFunc and ContainsFunc over pages and tracks, for whatever closure. -/
namespace Go.Proofs.YthjfadfebhjhbaaGreat
open Go.RowKit

set_option maxHeartbeats 1000000 in
theorem pg_IndexFunc (g : FuncId) (lb : List Value) (p : PgW → Bool) (v : Value) (l : List PgW) (w : World) (hv : SlG pgR w v l)
    (eI : ∀ args w, (callFunc g args).run Tryz.prog w = .ok (.enter g args) w)
    (hf : ∀ x ∈ l, ∀ d, Calls Tryz.prog g (.agg (pgR.enc x).toArray :: lb).toArray (bw w d) fun e w' => e = .returned (.bool (p x)) ∧ ∃ d, w' = bw w d) :
    Calls Tryz.prog 121 #[v, .func (.func g) #[] lb.toArray] w (IdxPost w (idxR p l 0)) := by
  by_cases hz : l = []
  · subst hz
    obtain ⟨a, cap, rfl⟩ := hv.form
    clear hf
    refine lay_start ?_
    go_enter Tryz.func121, Tryz.ntmps121
    go_wp2_with fail
    refine wp_loop_rounds 1 ?_
    rw [rounds_succ]
    go_wp2
    go_ret
    exact ⟨rfl, lay_ex _ _⟩
  · obtain ⟨b, o, cap, rfl, hc, hb, hr⟩ := hv.open (List.length_pos_iff.2 hz)
    obtain ⟨m, hm⟩ : ∃ m, l.length = m := ⟨_, rfl⟩
    have HF := Lib.hid hf
    have HM := Lib.hid hm
    rw [hm] at hc ⊢
    have HR : Hid (∀ i x, l[i]? = some x → w.cell? ⟨b, o + i * 4, none⟩ = some (.int .i64 x.y) ∧ w.cell? ⟨b, o + i * 4 + 1, none⟩ = some (.int .i64 x.m) ∧ w.cell? ⟨b, o + i * 4 + 2, none⟩ = some (.int .i64 x.d) ∧ w.cell? ⟨b, o + i * 4 + 3, none⟩ = some (.slice x.ta x.tn x.tc)) :=
      Lib.hid (fun i x hx => ⟨hr i x hx 0 _ rfl, hr i x hx 1 _ rfl, hr i x hx 2 _ rfl, hr i x hx 3 _ rfl⟩)
    clear hf hz hm hr hv
    refine lay_start ?_
    go_enter Tryz.func121, Tryz.ntmps121
    go_wp2_with fail
    go_loopw [8] (fun i wr => ∃ (k : Nat) (d : Ext), k ≤ m ∧ i = .int .i64 k ∧ wr = lay w [.inr d] ∧ idxR p l 0 = idxR p (l.drop k) k) (fun i _ => m - (intOf i).toNat)
    case atStart => exact ⟨0, noExt _, Nat.zero_le _, rfl, (bw_noExt _).symm, rfl⟩
    case round =>
      obtain ⟨k, d, hk, rfl, rfl, hA⟩ := hrel
      have HA := Lib.hid hA
      clear hA
      by_cases hlt : k < m
      · obtain ⟨x, hx⟩ : ∃ x, l[k]? = some x := ⟨_, List.getElem?_eq_getElem (by rw [HM.out]; exact hlt)⟩
        obtain ⟨e0, e1, e2, e3⟩ := HR.out k x hx
        have H1 : Hid (Calls Tryz.prog g (.agg #[.int .i64 x.y, .int .i64 x.m, .int .i64 x.d, .slice x.ta x.tn x.tc] :: lb).toArray (lay w [.inr d]) fun e w' => e = .returned (.bool (p x)) ∧ ∃ d, w' = bw w d) := Lib.hid (HF.out x (List.mem_of_getElem? hx) d)
        cases ho : p x
        · have HN := Lib.hid (idxR_miss hx ho HA.out)
          rw [ho] at H1
          clear ho hx
          obtain ⟨y0, y1, y2, y3, y4, y5⟩ := x
          dsimp only at e0 e1 e2 e3 H1
          go_wp2_with (refine H1.out.mono ?_; rintro e w' ⟨rfl, d1, rfl⟩)
          go_roundw
          case rel => exact ⟨k + 1, d1, by omega, by go_num, rfl, HN.out⟩
          case measure => simp [intOf]; omega
        · have HN := Lib.hid (idxR_got hx ho HA.out)
          rw [ho] at H1
          clear ho hx
          obtain ⟨y0, y1, y2, y3, y4, y5⟩ := x
          dsimp only at e0 e1 e2 e3 H1
          go_wp2_with (refine H1.out.mono ?_; rintro e w' ⟨rfl, d1, rfl⟩)
          go_ret
          exact ⟨ret_int HN.out, d1, rfl⟩
      · have HN := Lib.hid (idxR_end (k := k) (by rw [HM.out]; omega) HA.out)
        go_wp2
        go_ret
        exact ⟨ret_int HN.out, lay_ex _ _⟩
set_option maxHeartbeats 1000000 in
theorem pg_ContainsFunc (g : FuncId) (lb : List Value) (p : PgW → Bool) (v : Value) (l : List PgW) (w : World) (hv : SlG pgR w v l)
    (eI : ∀ args w, (callFunc g args).run Tryz.prog w = .ok (.enter g args) w)
    (hf : ∀ x ∈ l, ∀ d, Calls Tryz.prog g (.agg (pgR.enc x).toArray :: lb).toArray (bw w d) fun e w' => e = .returned (.bool (p x)) ∧ ∃ d, w' = bw w d) :
    Calls Tryz.prog 79 #[v, .func (.func g) #[] lb.toArray] w fun e w' => e = .returned (.bool (l.any p)) ∧ ∃ d, w' = bw w d := by
  have H := Lib.hid (pg_IndexFunc g lb p v l w hv eI hf)
  have HS := Lib.hid (idxR_any p l 0)
  generalize idxR p l 0 = x at *
  generalize l.any p = y at *
  clear hf eI hv
  refine lay_start ?_
  go_enter Tryz.func79, Tryz.ntmps79
  go_wp2_with (go_at_call 121; refine H.out.mono ?_; rintro e w' ⟨rfl, d, rfl⟩)
  go_ret
  exact ⟨ret_bool HS.out, _, rfl⟩
set_option maxHeartbeats 1000000 in
theorem tk_IndexFunc (g : FuncId) (lb : List Value) (p : TkW → Bool) (v : Value) (l : List TkW) (w : World) (hv : SlG tkR w v l)
    (eI : ∀ args w, (callFunc g args).run Tryz.prog w = .ok (.enter g args) w)
    (hf : ∀ x ∈ l, ∀ d, Calls Tryz.prog g (.agg (tkR.enc x).toArray :: lb).toArray (bw w d) fun e w' => e = .returned (.bool (p x)) ∧ ∃ d, w' = bw w d) :
    Calls Tryz.prog 122 #[v, .func (.func g) #[] lb.toArray] w (IdxPost w (idxR p l 0)) := by
  by_cases hz : l = []
  · subst hz
    obtain ⟨a, cap, rfl⟩ := hv.form
    clear hf
    refine lay_start ?_
    go_enter Tryz.func122, Tryz.ntmps122
    go_wp2_with fail
    refine wp_loop_rounds 1 ?_
    rw [rounds_succ]
    go_wp2
    go_ret
    exact ⟨rfl, lay_ex _ _⟩
  · obtain ⟨b, o, cap, rfl, hc, hb, hr⟩ := hv.open (List.length_pos_iff.2 hz)
    obtain ⟨m, hm⟩ : ∃ m, l.length = m := ⟨_, rfl⟩
    have HF := Lib.hid hf
    have HM := Lib.hid hm
    rw [hm] at hc ⊢
    have HR : Hid (∀ i x, l[i]? = some x → w.cell? ⟨b, o + i * 6, none⟩ = some (.string x.s) ∧ w.cell? ⟨b, o + i * 6 + 1, none⟩ = some (.slice x.ga x.gn x.gc) ∧ w.cell? ⟨b, o + i * 6 + 2, none⟩ = some (.slice x.da x.dn x.dc) ∧ w.cell? ⟨b, o + i * 6 + 3, none⟩ = some (.int .i64 x.p) ∧ w.cell? ⟨b, o + i * 6 + 4, none⟩ = some (.int .i64 x.q) ∧ w.cell? ⟨b, o + i * 6 + 5, none⟩ = some (.int .i64 x.r)) :=
      Lib.hid (fun i x hx => ⟨hr i x hx 0 _ rfl, hr i x hx 1 _ rfl, hr i x hx 2 _ rfl, hr i x hx 3 _ rfl, hr i x hx 4 _ rfl, hr i x hx 5 _ rfl⟩)
    clear hf hz hm hr hv
    refine lay_start ?_
    go_enter Tryz.func122, Tryz.ntmps122
    go_wp2_with fail
    go_loopw [8] (fun i wr => ∃ (k : Nat) (d : Ext), k ≤ m ∧ i = .int .i64 k ∧ wr = lay w [.inr d] ∧ idxR p l 0 = idxR p (l.drop k) k) (fun i _ => m - (intOf i).toNat)
    case atStart => exact ⟨0, noExt _, Nat.zero_le _, rfl, (bw_noExt _).symm, rfl⟩
    case round =>
      obtain ⟨k, d, hk, rfl, rfl, hA⟩ := hrel
      have HA := Lib.hid hA
      clear hA
      by_cases hlt : k < m
      · obtain ⟨x, hx⟩ : ∃ x, l[k]? = some x := ⟨_, List.getElem?_eq_getElem (by rw [HM.out]; exact hlt)⟩
        obtain ⟨e0, e1, e2, e3, e4, e5⟩ := HR.out k x hx
        have H1 : Hid (Calls Tryz.prog g (.agg #[.string x.s, .slice x.ga x.gn x.gc, .slice x.da x.dn x.dc, .int .i64 x.p, .int .i64 x.q, .int .i64 x.r] :: lb).toArray (lay w [.inr d]) fun e w' => e = .returned (.bool (p x)) ∧ ∃ d, w' = bw w d) := Lib.hid (HF.out x (List.mem_of_getElem? hx) d)
        cases ho : p x
        · have HN := Lib.hid (idxR_miss hx ho HA.out)
          rw [ho] at H1
          clear ho hx
          obtain ⟨y0, y1, y2, y3, y4, y5, y6, y7, y8, y9⟩ := x
          dsimp only at e0 e1 e2 e3 e4 e5 H1
          go_wp2_with (refine H1.out.mono ?_; rintro e w' ⟨rfl, d1, rfl⟩)
          go_roundw
          case rel => exact ⟨k + 1, d1, by omega, by go_num, rfl, HN.out⟩
          case measure => simp [intOf]; omega
        · have HN := Lib.hid (idxR_got hx ho HA.out)
          rw [ho] at H1
          clear ho hx
          obtain ⟨y0, y1, y2, y3, y4, y5, y6, y7, y8, y9⟩ := x
          dsimp only at e0 e1 e2 e3 e4 e5 H1
          go_wp2_with (refine H1.out.mono ?_; rintro e w' ⟨rfl, d1, rfl⟩)
          go_ret
          exact ⟨ret_int HN.out, d1, rfl⟩
      · have HN := Lib.hid (idxR_end (k := k) (by rw [HM.out]; omega) HA.out)
        go_wp2
        go_ret
        exact ⟨ret_int HN.out, lay_ex _ _⟩
set_option maxHeartbeats 1000000 in
theorem tk_ContainsFunc (g : FuncId) (lb : List Value) (p : TkW → Bool) (v : Value) (l : List TkW) (w : World) (hv : SlG tkR w v l)
    (eI : ∀ args w, (callFunc g args).run Tryz.prog w = .ok (.enter g args) w)
    (hf : ∀ x ∈ l, ∀ d, Calls Tryz.prog g (.agg (tkR.enc x).toArray :: lb).toArray (bw w d) fun e w' => e = .returned (.bool (p x)) ∧ ∃ d, w' = bw w d) :
    Calls Tryz.prog 81 #[v, .func (.func g) #[] lb.toArray] w fun e w' => e = .returned (.bool (l.any p)) ∧ ∃ d, w' = bw w d := by
  have H := Lib.hid (tk_IndexFunc g lb p v l w hv eI hf)
  have HS := Lib.hid (idxR_any p l 0)
  generalize idxR p l 0 = x at *
  generalize l.any p = y at *
  clear hf eI hv
  refine lay_start ?_
  go_enter Tryz.func81, Tryz.ntmps81
  go_wp2_with (go_at_call 122; refine H.out.mono ?_; rintro e w' ⟨rfl, d, rfl⟩)
  go_ret
  exact ⟨ret_bool HS.out, _, rfl⟩
end Go.Proofs.YthjfadfebhjhbaaGreat
