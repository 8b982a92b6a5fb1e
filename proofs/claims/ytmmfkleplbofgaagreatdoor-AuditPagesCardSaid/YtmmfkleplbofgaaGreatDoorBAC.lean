/- Contracts and plain laws, several texts in one: APlain; Sl; Aud1; MixP -/
import Derived.Test.YtmmfkleplbofgaaGreatDoorProg
import Derived.WalkKit
import Derived.WalkSpells
import Derived.WalkLawsBesides
import Derived.Lib.Hide
import Derived.BigQuiet
import Derived.Deep.Slices
import Derived.Deep.AppendLies
import Derived.Laws.OwnMore
import Derived.WideShapes
import Derived.Lib.SmallJoins
import Derived.Test.YtmmfkleplbofgaaGreatDoorBAA
import Derived.Test.YtmmfkleplbofgaaGreatDoorBAB
/- Audit, the plain law: steps, differences, possible lists, repairs. No program in sight. -/
namespace Go.Proofs.YtmmfkleplbofgaaGreatDoor
open Go.RowKit

def nth (g : List Int) (i : Nat) : Int := g.getD i 0
theorem nth_set (l : List Int) (at_ : Nat) (v : Int) (h : at_ < l.length) (i : Nat) : nth (l.set at_ v) i = if i = at_ then v else nth l i := by
  unfold nth
  by_cases e : i = at_
  · subst e; rw [if_pos rfl]; simp [List.getD, h]
  · rw [if_neg e]
    simp only [List.getD]
    rw [List.getElem?_set_ne (fun h => e h.symm)]
def frm (wr : Bool) (n : Int) : Int := if wr then n % 216000 else n
def stp (wr : Bool) (l : List Int) (i : Nat) : Int := frm wr (nth l (i + 1) - nth l i)
/-- The difference of the order 2 with a centre. -/
def sec (wr : Bool) (l : List Int) (i : Nat) : Int := stp wr l i - stp wr l (i - 1)
def badB (bend d : Int) : Bool := decide (bend + 2 < d ∨ d < -bend - 2)
theorem badB_f {bend d : Int} : badB bend d = false ↔ -(bend + 2) ≤ d ∧ d ≤ bend + 2 := by simp [badB]; omega
/-- The centres of bad differences from one up to before another one. -/
def badN (wr : Bool) (l : List Int) (bend : Int) (lo hi : Nat) : List Nat := (List.range' lo (hi - lo)).filter fun i => badB bend (sec wr l i)
def badL (wr : Bool) (l : List Int) (bend : Int) (lo hi : Nat) : List Int := (badN wr l bend lo hi).map Int.ofNat
theorem mem_badN {wr : Bool} {l : List Int} {bend : Int} {lo hi i : Nat} : i ∈ badN wr l bend lo hi ↔ lo ≤ i ∧ i < hi ∧ badB bend (sec wr l i) = true := by
  unfold badN
  rw [List.mem_filter, List.mem_range'_1]
  constructor
  · rintro ⟨⟨h1, h2⟩, h3⟩; exact ⟨h1, by omega, h3⟩
  · rintro ⟨h1, h2, h3⟩; exact ⟨⟨h1, by omega⟩, h3⟩
theorem badN_nil {wr : Bool} {l : List Int} {bend : Int} {lo hi : Nat} : badN wr l bend lo hi = [] ↔ ∀ i, lo ≤ i → i < hi → badB bend (sec wr l i) = false := by
  rw [List.eq_nil_iff_forall_not_mem]
  constructor
  · intro h i h1 h2
    cases e : badB bend (sec wr l i)
    · rfl
    · exact absurd (mem_badN.2 ⟨h1, h2, e⟩) (h i)
  · intro h i hi
    obtain ⟨h1, h2, h3⟩ := mem_badN.1 hi
    rw [h i h1 h2] at h3; cases h3
theorem badN_step (wr : Bool) (l : List Int) (bend : Int) (lo k : Nat) (h : lo ≤ k) : badN wr l bend lo (k + 1) = badN wr l bend lo k ++ if badB bend (sec wr l k) then [k] else [] := by
  unfold badN
  rw [show k + 1 - lo = (k - lo) + 1 by omega, List.range'_concat, List.filter_append]
  congr 1
  rw [show lo + 1 * (k - lo) = k by omega]
  simp only [List.filter_cons, List.filter_nil]
theorem badN_self (wr : Bool) (l : List Int) (bend : Int) (lo hi : Nat) (h : hi ≤ lo) : badN wr l bend lo hi = [] := by
  unfold badN; rw [show hi - lo = 0 by omega]; rfl
theorem badL_len {wr : Bool} {l : List Int} {bend : Int} {lo hi : Nat} : (badL wr l bend lo hi).length ≤ hi - lo := by
  unfold badL badN
  rw [List.length_map]
  exact Nat.le_trans (List.length_filter_le _ _) (by simp)
theorem mem_badL {wr : Bool} {l : List Int} {bend : Int} {lo hi : Nat} {x : Int} : x ∈ badL wr l bend lo hi ↔ ∃ i : Nat, x = i ∧ lo ≤ i ∧ i < hi ∧ badB bend (sec wr l i) = true := by
  unfold badL
  rw [List.mem_map]
  constructor
  · rintro ⟨i, h, rfl⟩; exact ⟨i, rfl, mem_badN.1 h⟩
  · rintro ⟨i, rfl, h⟩; exact ⟨i, mem_badN.2 h, rfl⟩

/-- Strictly ascending. -/
def Asc (l : List Int) : Prop := l.Pairwise (· < ·)
theorem asc_eq : ∀ {a b : List Int}, Asc a → Asc b → (∀ x, x ∈ a ↔ x ∈ b) → a = b
  | [], [], _, _, _ => rfl
  | [], y :: b, _, _, h => absurd ((h y).2 (List.mem_cons_self ..)) (List.not_mem_nil)
  | x :: a, [], _, _, h => absurd ((h x).1 (List.mem_cons_self ..)) (List.not_mem_nil)
  | x :: a, y :: b, ha, hb, h => by
    obtain ⟨hx, ha'⟩ := List.pairwise_cons.1 ha
    obtain ⟨hy, hb'⟩ := List.pairwise_cons.1 hb
    have e : x = y := by
      rcases List.mem_cons.1 ((h x).1 (List.mem_cons_self ..)) with e | e
      · exact e
      · rcases List.mem_cons.1 ((h y).2 (List.mem_cons_self ..)) with e2 | e2
        · exact e2.symm
        · have h1 : x < y := hx y e2
          have h2 : y < x := hy x e
          omega
    subst e
    congr 1
    refine asc_eq ha' hb' fun z => ?_
    constructor
    · intro hz
      rcases List.mem_cons.1 ((h z).1 (List.mem_cons_of_mem _ hz)) with e | e
      · subst e; exact absurd (hx z hz) (Int.lt_irrefl z)
      · exact e
    · intro hz
      rcases List.mem_cons.1 ((h z).2 (List.mem_cons_of_mem _ hz)) with e | e
      · subst e; exact absurd (hy z hz) (Int.lt_irrefl z)
      · exact e
theorem asc_filter {l : List Int} (h : Asc l) (p : Int → Bool) : Asc (l.filter p) := List.Pairwise.filter p h
/-- An ascending list with a further element, each once. -/
def putI (x : Int) : List Int → List Int
  | [] => [x]
  | y :: l => if y < x then y :: putI x l else if y = x then y :: l else x :: y :: l
theorem mem_putI {x : Int} : ∀ {l : List Int} {z : Int}, z ∈ putI x l ↔ z = x ∨ z ∈ l
  | [], z => by simp [putI]
  | y :: l, z => by
    unfold putI
    split
    · rw [List.mem_cons, mem_putI, List.mem_cons]
      constructor
      · rintro (h | h | h)
        · exact .inr (.inl h)
        · exact .inl h
        · exact .inr (.inr h)
      · rintro (h | h | h)
        · exact .inr (.inl h)
        · exact .inl h
        · exact .inr (.inr h)
    · split
      · rename_i h; subst h
        constructor
        · exact .inr
        · rintro (h | h)
          · subst h; exact List.mem_cons_self ..
          · exact h
      · rw [List.mem_cons]
theorem asc_putI {x : Int} : ∀ {l : List Int}, Asc l → Asc (putI x l)
  | [], _ => List.pairwise_singleton ..
  | y :: l, h => by
    obtain ⟨hy, hl⟩ := List.pairwise_cons.1 h
    unfold putI
    split
    · rename_i hlt
      refine List.pairwise_cons.2 ⟨fun z hz => ?_, asc_putI hl⟩
      rcases mem_putI.1 hz with e | e
      · subst e; exact hlt
      · exact hy z e
    · split
      · exact h
      · refine List.pairwise_cons.2 ⟨fun z hz => ?_, h⟩
        rcases List.mem_cons.1 hz with e | e
        · subst e; omega
        · have := hy z e; omega

/-- May a number be an entry? -/
def permB (wr : Bool) (n : Int) : Bool := if wr then decide (0 ≤ n ∧ n < 216000) else decide (-1048576 ≤ n ∧ n ≤ 1048576)
def givE (wr : Bool) (l : List Int) : Int := if l.length < 3 ∨ 1000 < l.length then 3 else if l.all (permB wr) then 0 else 1
structure Giv (wr : Bool) (l : List Int) : Prop where
  n3 : 3 ≤ l.length
  n1000 : l.length ≤ 1000
  perm : ∀ i, i < l.length → permB wr (nth l i) = true
theorem giv_iff {wr : Bool} {l : List Int} : givE wr l = 0 ↔ Giv wr l := by
  unfold givE
  constructor
  · intro h
    split at h
    · cases h
    · rename_i h1
      split at h
      · rename_i h2
        refine ⟨by omega, by omega, fun i hi => ?_⟩
        have := List.all_eq_true.1 h2 (nth l i) (by unfold nth; simp [List.getD, hi])
        exact this
      · cases h
  · rintro ⟨h1, h2, h3⟩
    rw [if_neg (by omega), if_pos]
    rw [List.all_eq_true]
    intro x hx
    obtain ⟨i, hi, rfl⟩ := List.getElem_of_mem hx
    have := h3 i hi
    unfold nth at this
    simpa [List.getD, hi] using this
theorem perm_bd {wr : Bool} {n : Int} (h : permB wr n = true) : -1048576 ≤ n ∧ n ≤ 1048576 := by
  unfold permB at h
  cases wr
  · simpa using h
  · simp at h; omega
theorem frm_bd {wr : Bool} {a b : Int} (ha : permB wr a = true) (hb : permB wr b = true) : -2097152 ≤ frm wr (a - b) ∧ frm wr (a - b) ≤ 2097152 := by
  unfold permB at ha hb; unfold frm
  cases wr
  · simp at ha hb ⊢; omega
  · simp at ha hb ⊢; omega
theorem stp_bd {wr : Bool} {l : List Int} (h : Giv wr l) {i : Nat} (hi : i + 1 < l.length) : -2097152 ≤ stp wr l i ∧ stp wr l i ≤ 2097152 := frm_bd (h.perm _ hi) (h.perm _ (by omega))
theorem sec_bd {wr : Bool} {l : List Int} (h : Giv wr l) {i : Nat} (h0 : 1 ≤ i) (hi : i + 1 < l.length) : -4194304 ≤ sec wr l i ∧ sec wr l i ≤ 4194304 := by
  have := stp_bd h hi
  have := stp_bd h (i := i - 1) (by omega)
  unfold sec; omega
theorem giv_set {wr : Bool} {l : List Int} (h : Giv wr l) (i : Nat) (v : Int) (hv : permB wr v = true) : Giv wr (l.set i v) := by
  refine ⟨by simpa using h.n3, by simpa using h.n1000, fun j hj => ?_⟩
  have hj' : j < l.length := by simpa using hj
  by_cases hi : i < l.length
  · rw [nth_set l i v hi]
    split
    · exact hv
    · exact h.perm j hj'
  · rw [List.set_eq_of_length_le (by omega)]; exact h.perm j hj'
end Go.Proofs.YtmmfkleplbofgaaGreatDoor
/- Slices of ints that are read; rows of ints of the call's own; an append to such a row. -/
namespace Go.Proofs.YtmmfkleplbofgaaGreatDoor
open Go.RowKit

theorem lay_app (w : World) (A B : List (Obj ⊕ Ext)) : lay w (A ++ B) = lay (lay w B) A := by
  induction A with
  | nil => rfl
  | cons x A ih =>
    cases x with
    | inl o => exact congrArg (fun W => World.alloc W o) ih
    | inr d => exact congrArg (fun W => bw W d) ih
theorem lay_below {w : World} {A B : List (Obj ⊕ Ext)} : Below (lay w B).heap.size (lay w B) (lay w (A ++ B)) := by rw [lay_app]; exact lay_extends _ _
/-- The value is a slice that reads, in this world, as these ints. -/
def Sl (w : World) (v : Value) (l : List Int) : Prop :=
  ∃ a cap, v = .slice a l.length cap ∧ (l.length ≤ cap ∧ cap ≤ 9223372036854775807) ∧ (∀ i, i < l.length → (Lit.int .i64 (nth l i)).wf = true) ∧
    (l ≠ [] → ∃ b o, a = some ⟨b, o, none⟩ ∧ b < w.heap.size ∧ ∀ i, i < l.length → w.cell? ⟨b, o + i, none⟩ = some (.int .i64 (nth l i)))
theorem Sl.ext {w w' : World} {v : Value} {l : List Int} (h : Sl w v l) (hb : Below w.heap.size w w') : Sl w' v l := by
  obtain ⟨a, cap, h1, h2, h0, h3⟩ := h
  refine ⟨a, cap, h1, h2, h0, fun hl => ?_⟩
  obtain ⟨b, o, h4, h5, h6⟩ := h3 hl
  exact ⟨b, o, h4, Nat.lt_of_lt_of_le h5 hb.size, fun i hi => (hb.cell (p := ⟨b, o + i, none⟩) h5).trans (h6 i hi)⟩
theorem Sl.bw {w : World} {v : Value} {l : List Int} (h : Sl w v l) (d : Ext) : Sl (bw w d) v l := h.ext (bw_below w d)
theorem Sl.lay {w : World} {v : Value} {l : List Int} (h : Sl w v l) (L : List (Obj ⊕ Ext)) : Sl (lay w L) v l := h.ext (lay_extends w L)
theorem sl_on {w : World} {v : Value} {l : List Int} {A B : List (Obj ⊕ Ext)} (h : Sl (lay w B) v l) : Sl (lay w (A ++ B)) v l := h.ext lay_below
theorem Sl.nil (w : World) : Sl w (.slice none 0 0) [] := ⟨none, 0, rfl, by simp, fun i hi => absurd hi (Nat.not_lt_zero i), fun h => absurd rfl h⟩
/-- What a walk wants of a slice that is not empty. -/
theorem Sl.open {w : World} {v : Value} {l : List Int} (h : Sl w v l) (hl : 0 < l.length) :
    ∃ b o cap, v = .slice (some ⟨b, o, none⟩) l.length cap ∧ (l.length ≤ cap ∧ cap ≤ 9223372036854775807) ∧ (∀ i, i < l.length → (Lit.int .i64 (nth l i)).wf = true) ∧ b < w.heap.size ∧ ∀ i, i < l.length → w.cell? ⟨b, o + i, none⟩ = some (.int .i64 (nth l i)) := by
  obtain ⟨a, cap, rfl, h2, h0, h3⟩ := h
  obtain ⟨b, o, rfl, h5, h6⟩ := h3 (by intro e; rw [e] at hl; exact Nat.lt_irrefl 0 hl)
  exact ⟨b, o, cap, rfl, h2, h0, h5, h6⟩
theorem sl_of_fn {w : World} {a : Addr} {n cap : Nat} (hn : n ≤ cap ∧ cap ≤ 9223372036854775807) (hsp : a.spot = none) (hb : n ≠ 0 → a.block < w.heap.size) (f : Nat → Int)
    (h : ∀ i, i < n → w.cell? ⟨a.block, a.off + i, none⟩ = some (.int .i64 (f i)) ∧ (Lit.int .i64 (f i)).wf = true) :
    Sl w (.slice (some a) n cap) ((List.range n).map f) := by
  have e : ∀ i, i < n → nth ((List.range n).map f) i = f i := fun i hi => by simp [nth, List.getD, hi]
  refine ⟨some a, cap, by simp, by simpa using hn, fun i hi => ?_, fun hl => ⟨a.block, a.off, by cases a; simp_all, hb (by rintro rfl; exact hl rfl), fun i hi => ?_⟩⟩
  · have hi' : i < n := by simpa using hi
    rw [e i hi']; exact (h i hi').2
  · have hi' : i < n := by simpa using hi
    rw [e i hi']; exact (h i hi').1
theorem s_add_block1 (a : Addr) (n : Nat) : (a.add n).block = a.block := by
  unfold Addr.add; split <;> rfl
theorem s_add_none1 {a : Addr} (h : a.spot = none) (n : Nat) : a.add n = ⟨a.block, a.off + n, none⟩ := by
  unfold Addr.add
  split
  · rename_i h0
    have : n = 0 := by simpa using h0
    subst this
    cases a; simp_all
  · rfl
section
variable {H : Type} {enc : TypeId × Value → H} {P : Program}
theorem sl_of {w : World} {t e : TypeId} {fuel : Nat} {v : Value} {x : DataW H × List MemPlace} (ht : P.underlying t = some (.slice e)) (he : P.underlying e = some (.int .i64)) (hC : P.cellsOf e = 1)
    (hf : DataW.trod enc P w 0 (fun _ => true) true fuel t [v] = some x) : ∃ l, Sl w v l := by
  rcases Go.Deep.open_slice ht hf with ⟨hcs, _⟩ | ⟨a', len', cap', m, n, D, Pl, hcs, hb, hl, hm, hmm, hx, hel⟩
  · obtain rfl : v = .slice none 0 0 := by simpa using hcs
    exact ⟨[], Sl.nil w⟩
  · obtain rfl : v = .slice (some a') len' cap' := by simpa using hcs
    simp only [if_true] at hmm
    subst hmm
    obtain ⟨f, hF⟩ := Go.Deep.choose_lt (α := Int) (p := fun i y => w.cell? (a'.add i) = some (.int .i64 y) ∧ (Lit.int .i64 y).wf = true) (n := m) (fun i him => by
      obtain ⟨cs', hc', ht'⟩ := hel i him
      rw [hC] at hc'
      obtain ⟨_, hcl, hat⟩ := World.cells?_some hc'
      obtain ⟨y, rfl, _, hw⟩ := DataW.trod_int he ht'
      exact ⟨y, by simpa [Go.Deep.add_add] using hat 0 (by simp), hw⟩)
    have hspot : 0 < len' → a'.spot = none := fun hp => by
      have := (hF 0 (by omega)).1
      unfold World.cell? at this
      cases hs : a'.spot
      · rfl
      · simp [Addr.add, hs] at this
        try (split at this <;> simp at this)
    have hbl : 0 < len' → a'.block < w.heap.size := fun hp => by
      obtain ⟨cs', hc', _⟩ := hel 0 (by omega)
      rw [hC] at hc'
      have := World.cells?_block hc' (by omega)
      simpa [s_add_block1] using this
    have hM : maxLen = 9223372036854775807 := by decide
    by_cases hz : len' = 0
    · subst hz
      exact ⟨[], some a', _, rfl, ⟨hl, by omega⟩, fun i hi => absurd hi (Nat.not_lt_zero i), fun hne => absurd rfl hne⟩
    · refine ⟨_, sl_of_fn ⟨hl, by omega⟩ (hspot (by omega)) (fun _ => hbl (by omega)) f fun i hi' => ?_⟩
      have g := hF i (by omega)
      rw [s_add_none1 (hspot (by omega))] at g
      exact g
theorem sl_open {w : World} {r : Reach} {b0 : Nat} {t e : TypeId} {v : Value} {d : DataW H} {ps : List MemPlace} (ht : P.underlying t = some (.slice e)) (he : P.underlying e = some (.int .i64)) (hC : P.cellsOf e = 1)
    (hv : Value.okWide P w r b0 t v) (h : DataW.Trod enc P w 0 (fun _ => true) true t v d ps) : ∃ l, Sl w v l := by
  obtain ⟨a, len, cap, rfl⟩ := Go.WideShapes.okWide_slice ht hv
  obtain ⟨fuel, hf⟩ := h
  exact sl_of ht he hC (by simpa [Value.cells] using hf)
end

/-- The value is a row of the call's own (its blocks behind base) that holds these ints. -/
def Ow (w : World) (base : Nat) (v : Value) (l : List Int) : Prop :=
  w.ownsRow base 3 1 v l.length (l.map (Value.int .i64)) ∧ ∀ i, i < l.length → (Lit.int .i64 (nth l i)).wf = true
theorem Ow.nil (w : World) (base : Nat) : Ow w base (.slice none 0 0) [] := ⟨World.ownsRow_nil w base _ _, fun i hi => absurd hi (Nat.not_lt_zero i)⟩
theorem Ow.form {w : World} {base : Nat} {v : Value} {l : List Int} (h : Ow w base v l) : ∃ a cap, v = .slice a l.length cap := by
  rcases h.1.2 with ⟨rfl, hz⟩ | ⟨g, cap, cur, rfl, _⟩
  · exact ⟨none, 0, by rw [hz]⟩
  · exact ⟨_, cap, rfl⟩
theorem Ow.form1 {w : World} {base : Nat} {v : Value} {l : List Int} (h : Ow w base v l) (hl : 0 < l.length) : ∃ g cap, v = .slice (some ⟨g, 0, none⟩) l.length cap ∧ base ≤ g ∧ g < w.heap.size ∧ l.length ≤ cap ∧ cap ≤ 9223372036854775807 := by
  rcases h.1.2 with ⟨rfl, hz⟩ | ⟨g, cap, cur, rfl, h1, h2, h3, h4, _⟩
  · omega
  · have hM : maxLen = 9223372036854775807 := by decide
    exact ⟨g, cap, rfl, h1, (Array.getElem?_eq_some_iff.1 h2).1, h3, by omega⟩
theorem nth_getElem? {l : List Int} {i : Nat} (h : i < l.length) : l[i]? = some (nth l i) := by simp [nth, List.getD, h]
theorem Ow.cell {w : World} {base g cap n : Nat} {l : List Int} (h : Ow w base (.slice (some ⟨g, 0, none⟩) n cap) l) {i : Nat} (hi : i < l.length) : w.cell? ⟨g, i, none⟩ = some (.int .i64 (nth l i)) := by
  have h1 := h.1
  have hn : n = l.length := by
    obtain ⟨a, c, e⟩ := h.form
    cases e; rfl
  subst hn
  rw [h1.cellAt i (by omega), List.getElem?_map, nth_getElem? hi]
  rfl
theorem Ow.froz {w : World} {base g cap n : Nat} {l : List Int} (h : Ow w base (.slice (some ⟨g, 0, none⟩) n cap) l) (j : Nat) : w.frozen? ⟨g, j, none⟩ = false := by
  have hn : n = l.length := by
    obtain ⟨a, c, e⟩ := h.form
    cases e; rfl
  subst hn
  exact h.1.frozenAt j
theorem Ow.sl {w : World} {base : Nat} {v : Value} {l : List Int} (h : Ow w base v l) : Sl w v l := by
  by_cases hl : l = []
  · subst hl
    rcases h.1.2 with ⟨rfl, hz⟩ | ⟨g, cap, cur, rfl, _, _, h3, h4, _⟩
    · exact Sl.nil w
    · have hM : maxLen = 9223372036854775807 := by decide
      exact ⟨_, cap, rfl, ⟨h3, by omega⟩, h.2, fun hne => absurd rfl hne⟩
  · have hl' : 0 < l.length := List.length_pos_iff.2 hl
    obtain ⟨g, cap, rfl, h1, h2, h3⟩ := h.form1 hl'
    exact ⟨_, cap, rfl, h3, h.2, fun _ => ⟨g, 0, rfl, h2, fun i hi => by rw [Nat.zero_add]; exact h.cell hi⟩⟩
theorem Ow.ext {w w' : World} {base : Nat} {v : Value} {l : List Int} (h : Ow w base v l) (hb : Below w.heap.size w w') : Ow w' base v l := by
  refine ⟨⟨h.1.1, h.1.2.imp id ?_⟩, h.2⟩
  rintro ⟨g, cap, cur, e, h1, h2, h3⟩
  exact ⟨g, cap, cur, e, h1, (hb.block g (Array.getElem?_eq_some_iff.1 h2).1).trans h2, h3⟩
theorem Ow.lay {w : World} {base : Nat} {v : Value} {l : List Int} (h : Ow w base v l) (L : List (Obj ⊕ Ext)) : Ow (lay w L) base v l := h.ext (lay_extends w L)
theorem Ow.bw {w : World} {base : Nat} {v : Value} {l : List Int} (h : Ow w base v l) (d : Ext) : Ow (bw w d) base v l := h.ext (bw_below w d)
theorem Ow.le {w : World} {base base' : Nat} {v : Value} {l : List Int} (h : Ow w base v l) (hb : base' ≤ base) : Ow w base' v l := ⟨⟨h.1.1, h.1.2.imp id fun ⟨g, cap, cur, e, h1, h2⟩ => ⟨g, cap, cur, e, Nat.le_trans hb h1, h2⟩⟩, h.2⟩
theorem ow_on {w : World} {base : Nat} {v : Value} {l : List Int} {A B : List (Obj ⊕ Ext)} (h : Ow (lay w B) base v l) : Ow (lay w (A ++ B)) base v l := h.ext lay_below
/-- An append to such a row of an element that was just laid down. -/
theorem ow_append {l : List Int} {c : Int} (hl : ∀ i, i < l.length → (Lit.int .i64 (nth l i)).wf = true) (hc : (Lit.int .i64 c).wf = true) : ∀ i, i < (l ++ [c]).length → (Lit.int .i64 (nth (l ++ [c]) i)).wf = true := by
  intro i hi
  by_cases h : i < l.length
  · have : nth (l ++ [c]) i = nth l i := by unfold nth; simp [List.getD, List.getElem?_append, h]
    rw [this]; exact hl i h
  · have h2 : i = l.length := by simp at hi; omega
    have : nth (l ++ [c]) i = c := by unfold nth; simp [List.getD, h2]
    rw [this]; exact hc
theorem info_intS : (Tryz.prog.info? 3).map (fun i => (i.zero, i.size, i.bytes)) = some (some (.int .i64 0), 1, 8) := by kernel_rfl
theorem push_int {ops : Array Oper} {rest : List Oper} {o : Oper} {a : Act} {Q : Exit → Act → World → Prop} (hgd : o.guard = none) (s x : Operand)
    (ho : o.op = .call { callee := .builtin .append, args := #[s, x], argTypes := #[29, 29] })
    (W0 : World) (wb : World) (c : Int) (te : TypeId) (xb : Nat) (v : Value) (l : List Int) (hw : Below W0.heap.size W0 wb) (hown : Ow wb W0.heap.size v l)
    (hcell : wb.heap[xb]? = some (.cells #[.int .i64 c] te (0, 0))) (hs : a.eval s = v) (hx : a.eval x = .slice (some ⟨xb, 0, none⟩) 1 1)
    (hn : l.length ≤ 1000000000) (hc : (Lit.int .i64 c).wf = true)
    (h : ∀ v' d, Ow (Go.Proofs.YtmmfkleplbofgaaGreatDoor.bw W0 d) W0.heap.size v' (l ++ [c]) → wpList Tryz.prog ops Q rest (a.put o.dst v') (Go.Proofs.YtmmfkleplbofgaaGreatDoor.bw W0 d)) :
    wpList Tryz.prog ops Q (o :: rest) a wb := by
  obtain ⟨i, hi, hz0, hz1, hz2⟩ := info_parts info_intS
  have hM : maxLen = 9223372036854775807 := by decide
  refine wpList_append_lies wb hgd s x 29 ho W0.heap.size 3 i (.int .i64 0) 1 8 Tryz.underlying29 hi hz0 hz1 hz2 rfl (by decide) v l.length (l.map (Value.int .i64)) hs hown.1 ⟨xb, 0, none⟩ 1 1 [.int .i64 c] hx rfl (World.news_of_block (cs := #[.int .i64 c]) hcell) (by simp [Value.oneCell']) (by decide) (by omega) (by omega) hw.size wb.heap.size rfl ?_
  intro g cap w' hown' hg hat _
  obtain ⟨d, hd⟩ := bw_of (w := W0) (w' := w') (hw.grown hg hw.size (fun k hk => (hown.1.lt k hk).1))
  subst hd
  exact h _ d ⟨by simpa using hown', ow_append hown.2 hc⟩
/-- A store into such a row. -/
theorem ow_store {w : World} {base g cap n : Nat} {l : List Int} (h : Ow w base (.slice (some ⟨g, 0, none⟩) n cap) l) (j : Nat) (x : Int) (hx : (Lit.int .i64 x).wf = true) :
    Ow (w.setCell ⟨g, j, none⟩ (.int .i64 x)) base (.slice (some ⟨g, 0, none⟩) n cap) (l.set j x) := by
  have hn : n = l.length := by
    obtain ⟨a, c, e⟩ := h.form
    cases e; rfl
  subst hn
  refine ⟨by have := (h.1.stored j (.int .i64 x)).1; rw [List.length_set, List.map_set]; exact this, fun i hi => ?_⟩
  have hi' : i < l.length := by simpa using hi
  by_cases hj : j < l.length
  · rw [nth_set l j x hj]
    split
    · exact hx
    · exact h.2 i hi'
  · rw [List.set_eq_of_length_le (by omega)]; exact h.2 i hi'
/-- A row behind a block is the same whatever the block holds. -/
theorem ow_swap {w : World} {T : List (Obj ⊕ Ext)} {o : Obj} (o' : Obj) {e : Ext} {base : Nat} {v : Value} {l : List Int} (hb : (lay w T).heap.size < base)
    (h : Ow (lay w (.inr e :: .inl o :: T)) base v l) : Ow (lay w (.inr e :: .inl o' :: T)) base v l := by
  refine ⟨⟨h.1.1, h.1.2.imp id fun ⟨g, cap, cur, h1, h2, h3, h4⟩ => ⟨g, cap, cur, h1, h2, ?_, h4⟩⟩, h.2⟩
  rw [← h3]
  show ((Go.Proofs.YtmmfkleplbofgaaGreatDoor.lay w T).heap.push o' ++ e.blocks)[g]? = ((Go.Proofs.YtmmfkleplbofgaaGreatDoor.lay w T).heap.push o ++ e.blocks)[g]?
  rw [Array.getElem?_append, Array.getElem?_append, Array.size_push, Array.size_push]
  rw [if_neg (by omega), if_neg (by omega)]
theorem lay_lt (w : World) (o : Obj) (T : List (Obj ⊕ Ext)) : (Go.Proofs.YtmmfkleplbofgaaGreatDoor.lay w T).heap.size < (Go.Proofs.YtmmfkleplbofgaaGreatDoor.lay w (.inl o :: T)).heap.size := by
  show _ < (World.alloc _ o).heap.size
  rw [World.size_alloc]; exact Nat.lt_succ_self _
/-- A store behind a world's blocks leaves a world that extends it. -/
theorem bw_store {w : World} {d : Ext} {g i : Nat} {v : Value} (hg : w.heap.size ≤ g) : ∃ d', (Go.Proofs.YtmmfkleplbofgaaGreatDoor.bw w d).setCell ⟨g, i, none⟩ v = Go.Proofs.YtmmfkleplbofgaaGreatDoor.bw w d' := by
  refine bw_of ?_
  have h1 := bw_below w d
  refine ⟨h1.1, h1.2, h1.3, ?_, fun k hk => ?_⟩
  · rw [World.size_setCell]; exact h1.size
  · rw [heap_setCell_other _ ⟨g, i, none⟩ k v (by intro e; have : k = g := by simpa using e
                                                  omega)]
    exact h1.block k hk
end Go.Proofs.YtmmfkleplbofgaaGreatDoor
/- audit: permits, form, step, second, bad; the reference's permitted, mod, step. -/
namespace Go.Proofs.YtmmfkleplbofgaaGreatDoor
open Go.RowKit

/-- A series by value. -/
def ser (v : Value) (wr : Bool) : Value := .agg #[v, .bool wr]
theorem perm_w (x : Int) : permB true x = (decide (0 ≤ x) && decide (x < 216000)) := by simp [permB]
theorem perm_n (x : Int) : permB false x = (decide (-1048576 ≤ x) && decide (x ≤ 1048576)) := by simp [permB]
set_option maxHeartbeats 400000 in
theorem aud_permits (a : Option Addr) (n cap : Nat) (wr : Bool) (x : Int) (w : World) :
    Calls Tryz.prog 44 #[.agg #[.slice a n cap, .bool wr], .int .i64 x] w fun e w' => e = .returned (.bool (permB wr x)) ∧ ∃ d, w' = bw w d := by
  cases wr
  · rw [perm_n]
    by_cases h : -1048576 ≤ x
    · rw [decide_eq_true h, Bool.true_and]
      refine lay_start ?_
      go_enter Tryz.func44, Tryz.ntmps44
      go_wp2
      go_ret
      exact ⟨rfl, lay_ex _ _⟩
    · rw [decide_eq_false h, Bool.false_and]
      refine lay_start ?_
      go_enter Tryz.func44, Tryz.ntmps44
      go_wp2
      go_ret
      exact ⟨rfl, lay_ex _ _⟩
  · rw [perm_w]
    by_cases h : 0 ≤ x
    · rw [decide_eq_true h, Bool.true_and]
      refine lay_start ?_
      go_enter Tryz.func44, Tryz.ntmps44
      go_wp2
      go_ret
      exact ⟨rfl, lay_ex _ _⟩
    · rw [decide_eq_false h, Bool.false_and]
      refine lay_start ?_
      go_enter Tryz.func44, Tryz.ntmps44
      go_wp2
      go_ret
      exact ⟨rfl, lay_ex _ _⟩
theorem tmod2 (n : Int) : (n.tmod 216000 + 216000) % 216000 = n % 216000 := by
  have e := Int.tmod_add_mul_tdiv n 216000
  have t1 := Int.tmod_lt_of_pos n (show (0 : Int) < 216000 by decide)
  have t2 : -216000 < n.tmod 216000 := Int.lt_tmod_of_pos n (by decide)
  omega
set_option maxHeartbeats 400000 in
theorem aud_form (a : Option Addr) (n cap : Nat) (wr : Bool) (x : Int) (w : World) :
    Calls Tryz.prog 45 #[.agg #[.slice a n cap, .bool wr], .int .i64 x] w fun e w' => e = .returned (.int .i64 (frm wr x)) ∧ ∃ d, w' = bw w d := by
  cases wr
  · refine lay_start ?_
    go_enter Tryz.func45, Tryz.ntmps45
    go_wp2
    go_ret
    exact ⟨rfl, lay_ex _ _⟩
  · have e := tmod2 x
    have t1 := Int.tmod_lt_of_pos x (show (0 : Int) < 216000 by decide)
    have t2 : -216000 < x.tmod 216000 := Int.lt_tmod_of_pos x (by decide)
    have w1 : IntKind.i64.wrap (x.tmod 216000 + 216000) = x.tmod 216000 + 216000 := IntWalk.i64_in _ (by omega)
    have hE : frm true x = x % 216000 := rfl
    rw [hE, ← e]
    clear e hE
    refine lay_start ?_
    go_enter Tryz.func45, Tryz.ntmps45
    go_wp2
    go_ret
    exact ⟨rfl, lay_ex _ _⟩
set_option maxHeartbeats 400000 in
theorem aud_step (v : Value) (l : List Int) (wr : Bool) (i : Nat) (w : World) (hs : Sl w v l) (hg : Giv wr l) (hi : i + 1 < l.length) :
    Calls Tryz.prog 27 #[.agg #[v, .bool wr], .int .i64 (i : Int)] w fun e w' => e = .returned (.int .i64 (stp wr l i)) ∧ ∃ d, w' = bw w d := by
  obtain ⟨b, o, cap, rfl, hc, -, hb, hr⟩ := hs.open (by omega)
  have e0 := hr i (by omega)
  have e1 := hr (i + 1) hi
  have p0 := perm_bd (hg.perm i (by omega))
  have p1 := perm_bd (hg.perm (i + 1) hi)
  have hlen := hg.n1000
  obtain ⟨m, hm⟩ : ∃ m, l.length = m := ⟨_, rfl⟩
  rw [hm] at hc hi hlen ⊢
  have y0 : (0 : Int) ≤ (i : Int) := by omega
  have y1 : (i : Int) < (m : Int) := by omega
  have y2 : (0 : Int) ≤ (i : Int) + 1 := by omega
  have y3 : (i : Int) + 1 < (m : Int) := by omega
  have y4 : ((i : Int) + 1).toNat = i + 1 := by omega
  have w0 : IntKind.i64.wrap ((i : Int) + 1) = (i : Int) + 1 := IntWalk.i64_in _ (by omega)
  have w1 : IntKind.i64.wrap (nth l (i + 1) - nth l i) = nth l (i + 1) - nth l i := IntWalk.i64_in _ (by omega)
  have HF := Lib.hid (fun W => aud_form (some ⟨b, o, none⟩) m cap wr (nth l (i + 1) - nth l i) W)
  have hS : stp wr l i = frm wr (nth l (i + 1) - nth l i) := rfl
  rw [hS]
  clear hr hg hS hc
  generalize nth l (i + 1) = A at *
  generalize nth l i = B at *
  refine lay_start ?_
  go_enter Tryz.func27, Tryz.ntmps27
  go_wp2_with fail
  refine region_bw (by kernel_rfl) (by kernel_rfl) ?_
  repeat (go_big_quiet_step ((first | (go_at_call 45; exact bq (HF.out _) (fun d => lay_join _ _ _ d)))))
  refine wpQuiet_nil ?_
  rintro w' ⟨d, rfl⟩
  rw [lay_bw]
  go_wp2
  go_ret
  exact ⟨rfl, lay_ex _ _⟩
set_option maxHeartbeats 400000 in
theorem aud_second1 (v : Value) (l : List Int) (wr : Bool) (k : Nat) (w : World) (hs : Sl w v l) (hg : Giv wr l) (hi : k + 2 < l.length) :
    Calls Tryz.prog 46 #[.agg #[v, .bool wr], .int .i64 ((k : Int) + 1)] w fun e w' => e = .returned (.int .i64 (sec wr l (k + 1))) ∧ ∃ d, w' = bw w d := by
  have b0 := stp_bd hg (i := k + 1) hi
  have b1 := stp_bd hg (i := k) (by omega)
  have w1 : IntKind.i64.wrap (stp wr l (k + 1) - stp wr l k) = stp wr l (k + 1) - stp wr l k := IntWalk.i64_in _ (by omega)
  have w0 : wrap64 (k : Int) = (k : Int) := IntWalk.wrap64_in _ (by have := hg.n1000; omega)
  have H1 := Lib.hid (fun W (h : Sl W v l) => aud_step v l wr (k + 1) W h hg hi)
  have H2 := Lib.hid (fun W (h : Sl W v l) => aud_step v l wr k W h hg (by omega))
  have e1 : (((k + 1 : Nat) : Int)) = (k : Int) + 1 := by omega
  rw [e1] at H1
  have HS := Lib.hid hs
  obtain ⟨b, o, cap, rfl, -⟩ := hs.open (by omega)
  have hS : sec wr l (k + 1) = stp wr l (k + 1) - stp wr l k := rfl
  rw [hS]
  obtain ⟨m, hm⟩ : ∃ m, l.length = m := ⟨_, rfl⟩
  rw [hm] at H1 H2 HS ⊢
  clear hs hg hS hi hm e1
  generalize stp wr l (k + 1) = A at *
  generalize stp wr l k = B at *
  refine lay_start ?_
  go_enter Tryz.func46, Tryz.ntmps46
  go_wp2_with fail
  refine region_bw (by kernel_rfl) (by kernel_rfl) ?_
  repeat (go_big_quiet_step ((first | (go_at_call 27; (with_reducible refine bq (H1.out _ ?_) ?_); exact HS.out.lay _; exact (fun d => lay_join _ _ _ d)) | (go_at_call 27; (with_reducible refine bq (H2.out _ ?_) ?_); exact HS.out.lay _; exact (fun d => lay_join _ _ _ d)))))
  refine wpQuiet_nil ?_
  rintro w' ⟨d, rfl⟩
  rw [lay_bw]
  go_wp2
  go_ret
  exact ⟨rfl, lay_ex _ _⟩
theorem aud_second (v : Value) (l : List Int) (wr : Bool) (i : Nat) (w : World) (hs : Sl w v l) (hg : Giv wr l) (h0 : 1 ≤ i) (hi : i + 1 < l.length) :
    Calls Tryz.prog 46 #[.agg #[v, .bool wr], .int .i64 (i : Int)] w fun e w' => e = .returned (.int .i64 (sec wr l i)) ∧ ∃ d, w' = bw w d := by
  obtain ⟨k, rfl⟩ : ∃ k, i = k + 1 := ⟨i - 1, by omega⟩
  rw [show (((k + 1 : Nat) : Int)) = (k : Int) + 1 by omega]
  exact aud_second1 v l wr k w hs hg (by omega)
end Go.Proofs.YtmmfkleplbofgaaGreatDoor
/- Regions that draw their order, by a schedule in an order of one's own, with a tail. No program in sight. -/
namespace Go.Proofs.YtmmfkleplbofgaaGreatDoor
open Go.RowKit

section
variable {P : Program} {md : Region.Mode} {κ : Type} {Cl : κ → World} {l : List Oper} {ops : Array Oper}

def wpMP (P : Program) (l : List Oper) (ops : Array Oper) (Cl : κ → World) (Q : Act → World → Prop) : List (Nat × Nat) → Act → World → Prop
  | [], a, w => ∀ d, Q a (bw w d)
  | (i, 0) :: s, a, w => ∃ o, l[i]? = some o ∧ (if Region.wanted o (yielded ops a.tmps) then mOp P Cl o a (fun a' => wpMP P l ops Cl Q s a' w) else wpMP P l ops Cl Q s (a.put o.dst undef) w)
  | (i, 1) :: s, a, w => ∃ o, l[i]? = some o ∧ ∀ d, (if Region.wanted o (yielded ops a.tmps) then sOp P o a (fun a' w' => (∃ k, w' = Cl k) ∧ wpMP P l ops Cl Q s a' w') (bw w d) else (∃ k, bw w d = Cl k) ∧ wpMP P l ops Cl Q s (a.put o.dst undef) (bw w d))
  | (_, _ + 2) :: _, _, _ => False
def lexMP (md : Region.Mode) (ops : Array Oper) (n g : Nat) : List (Nat × Nat) → Array Bool → Bool
  | [], listed => Region.seqB md ops g n listed
  | (i, 0) :: s, listed => decide (i < n) && (Region.ready md ops listed).contains i && Region.free md ops listed i && lexMP md ops n g s (listed.setIfInBounds i true)
  | (i, 1) :: s, listed => decide (i < n) && decide (Region.ready md ops listed = [i]) && lexMP md ops n g s (listed.setIfInBounds i true)
  | (_, _ + 2) :: _, _ => false

theorem mixT_of_wpMP {n g : Nat} {Lq : Act → World → Prop} (hCl : ∀ k d, ∃ k', bw (Cl k) d = Cl k') (hl : ∀ j : Nat, l[j]? = ops[j]?) (hsel : Region.noSelect ops = true) (hs : Region.sinkB md ops n = true) (hc : Region.chainB md ops n = true) (hn : n < ops.size) :
    ∀ (s : List (Nat × Nat)) (listed : Array Bool) (a : Act) (w : World), HeadInv md ops n listed → (∃ k, w = Cl k) → lexMP md ops n g s listed = true →
    wpMP P l ops Cl Lq s a w → mixT P md ops Cl n (fun listed' a' w' => Region.seqB md ops g n listed' = true ∧ Lq a' w') s.length listed a w
  | [], listed, a, w, inv, hw, hB, h => fun d => ⟨hB, h d⟩
  | (k, 0) :: s, listed, a, w, inv, hw, hB, h => by
    simp only [lexMP, Bool.and_eq_true, decide_eq_true_eq] at hB
    obtain ⟨⟨⟨hkn, hr⟩, hf⟩, hB'⟩ := hB
    obtain ⟨o, ho, h⟩ := h
    have h0 : ops[k]? = some o := (hl k).symm.trans ho
    have hr' : k ∈ Region.ready md ops listed := by simpa using hr
    have hy : ∃ v, YieldsM P ops Cl o v a ∧ wpMP P l ops Cl Lq s (a.put o.dst v) w := by
      by_cases hw1 : Region.wanted o (yielded ops a.tmps) = true
      · rw [if_pos hw1] at h
        obtain ⟨v, h1, h2⟩ := h
        exact ⟨v, .inl ⟨hw1, h1⟩, h2⟩
      · rw [if_neg hw1] at h
        exact ⟨undef, .inr ⟨by simpa using hw1, rfl⟩, h⟩
    obtain ⟨v, hy, hK⟩ := hy
    exact mixT_first hCl h0 (Region.noSelect_spec hsel) hs hc hn hkn (fun _ _ _ hL => seqB_ready hL.1) s.length listed a w hw inv (Region.free_spec h0 hf) hr' hy
      (mixT_of_wpMP hCl hl hsel hs hc hn s _ _ w (inv.set hr' hkn) hw hB' hK)
  | (k, 1) :: s, listed, a, w, inv, hw, hB, h => by
    simp only [lexMP, Bool.and_eq_true, decide_eq_true_eq] at hB
    obtain ⟨⟨hkn, hr⟩, hB'⟩ := hB
    obtain ⟨o, ho, h⟩ := h
    have h0 : ops[k]? = some o := (hl k).symm.trans ho
    have inv' := inv.set (i := k) (by rw [hr]; simp) hkn
    refine ⟨by rw [hr]; simp, fun i hi => ?_⟩
    rw [hr] at hi
    obtain rfl : i = k := by simpa using hi
    refine ⟨hkn, fun d => ?_⟩
    have hd := h d
    rw [oneOp_some h0]
    split
    · rename_i hw1; rw [if_pos hw1] at hd
      exact sOp_mono (fun a' w' hk' => ⟨hk'.1, mixT_of_wpMP hCl hl hsel hs hc hn s _ _ w' inv' hk'.1 hB' hk'.2⟩) hd
    · rename_i hw1; rw [if_neg hw1] at hd
      exact ⟨hd.1, mixT_of_wpMP hCl hl hsel hs hc hn s _ _ _ inv' hd.1 hB' hd.2⟩
  | (_, _ + 2) :: _, _, _, _, _, _, hB, _ => by simp [lexMP] at hB

theorem region_mixP {id : Nat} {Q : Exit → Act → World → Prop} {a : Act} {w : World} {l : List Oper} (s : List (Nat × Nat)) (hm : P.follows .mixedOrders = true) (hsel : Region.noSelect l.toArray = true)
    (hs : Region.sinkB .any l.toArray s.length = true) (hc : Region.chainB .any l.toArray s.length = true) (hn : s.length < l.toArray.size)
    (hB : lexMP .any l.toArray s.length (l.toArray.size - s.length) s (Array.replicate l.toArray.size false) = true)
    (h : wpMP P l l.toArray (fun d => bw w d) (fun a w => wpList P l.toArray Q (l.drop s.length) a w) s a w) : (Code.region id l.toArray true).wp P Q a w := by
  have hn' : s.length < l.length := by simpa using hn
  have hdl : (l.drop s.length).length = l.toArray.size - s.length := by simp
  have inv0 : HeadInv .any l.toArray s.length (Array.replicate l.toArray.size false) :=
    ⟨by simp, fun j oj _ hl => (by rw [getD_replicate_false] at hl; cases hl), fun t _ ht => getD_in (by simpa using ht) (getD_replicate_false _ _)⟩
  have H := mixT_of_wpMP (md := .any) (g := l.toArray.size - s.length) (fun k d => ⟨_, bw_bw w k d⟩) (fun j => by simp) hsel hs hc hn s _ a w inv0 ⟨noExt w, (bw_noExt w).symm⟩ hB h
  refine wp_region_any hm ?_
  have := mixT_ext (⟨#[], w.drawn + 1⟩ : Ext) H
  rw [← bw_drewExt] at this
  have := mixT_sound (Q' := Q) (g := l.toArray.size - s.length) (fun listed a' w' hL => by
    have := wpAny_of_seq (md := .any) (Q' := Q) (l.drop s.length) s.length listed a' w' (fun j => by simp [List.getElem?_drop]) (by rw [hdl]; exact hL.1) hL.2
    rwa [hdl] at this) _ _ _ _ this
  rw [show s.length + (l.toArray.size - s.length) = l.toArray.size by omega] at this
  exact this
theorem wpMP_quiet {Q : Act → World → Prop} {a : Act} {w : World} {i : Nat} {o : Oper} {s : List (Nat × Nat)} (ho : l[i]? = some o)
    (h : ∀ K : Act → Prop, (∀ a, wpMP P l ops Cl Q s a w → K a) → if Region.wanted o (yielded ops a.tmps) then mOp P Cl o a K else K (a.put o.dst undef)) : wpMP P l ops Cl Q ((i, 0) :: s) a w :=
  ⟨o, ho, h _ (fun _ h => h)⟩
theorem wpMP_special {Q : Act → World → Prop} {a : Act} {w : World} {i : Nat} {o : Oper} {s : List (Nat × Nat)} (ho : l[i]? = some o)
    (h : ∀ (K : Act → World → Prop), (∀ a' w', (∃ k, w' = Cl k) → wpMP P l ops Cl Q s a' w' → K a' w') → ∀ d, if Region.wanted o (yielded ops a.tmps) then sOp P o a K (bw w d) else K (a.put o.dst undef) (bw w d)) : wpMP P l ops Cl Q ((i, 1) :: s) a w :=
  ⟨o, ho, fun d => by
    have := h (fun a' w' => (∃ k, w' = Cl k) ∧ wpMP P l ops Cl Q s a' w') (fun _ _ h1 h2 => ⟨h1, h2⟩) d
    split
    · rename_i hw; rw [if_pos hw] at this; exact this
    · rename_i hw; rw [if_neg hw] at this; exact this⟩
theorem wpMP_nil {Q : Act → World → Prop} {a : Act} {w : World} (h : ∀ d, Q a (bw w d)) : wpMP P l ops Cl Q [] a w := h
end
end Go.Proofs.YtmmfkleplbofgaaGreatDoor
