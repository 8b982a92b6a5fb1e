/- Lists of ints and tracks that came in: how they read; opening them off a row. -/
import Derived.Test.YtlkphcjlgbimkaaGreatProg
import Derived.Test.YtlkphcjlgbimkaaGreatLay
import Derived.Test.YtlkphcjlgbimkaaGreatRegion
import Derived.Test.YtlkphcjlgbimkaaGreatMix
import Derived.WalkKit
import Derived.WalkSpells
import Derived.WalkLawsBesides
import Derived.Lib.Hide
import Derived.BigQuiet
import Derived.Deep.Slices
import Derived.Deep.Fields
import Derived.ChangeSame
import Derived.WideShapes
import Derived.ChangeShapes
import Derived.Lib.SmallJoins
namespace Go.Proofs.YtlkphcjlgbimkaaGreat
open Go.RowKit

/-- The value is a slice that reads, in this world, as these ints. -/
def Lst (w : World) (v : Value) (l : List Int) : Prop :=
  ∃ a cap, v = .slice a l.length cap ∧ l.length ≤ 9223372036854775807 ∧ (∀ i, i < l.length → (Lit.int .i64 (l.getD i 0)).wf = true) ∧
    (l ≠ [] → ∃ b o, a = some ⟨b, o, none⟩ ∧ b < w.heap.size ∧ ∀ i, i < l.length → w.cell? ⟨b, o + i, none⟩ = some (.int .i64 (l.getD i 0)))
theorem Lst.bw {w : World} {v : Value} {l : List Int} (h : Lst w v l) (d : Ext) : Lst (bw w d) v l := by
  obtain ⟨a, cap, h1, h2, h0, h3⟩ := h
  refine ⟨a, cap, h1, h2, h0, fun hl => ?_⟩
  obtain ⟨b, o, h4, h5, h6⟩ := h3 hl
  exact ⟨b, o, h4, Nat.lt_of_lt_of_le h5 (bw_le w d), fun i hi => (bw_cell w d b (o + i) h5).trans (h6 i hi)⟩
theorem Lst.lay {w : World} {v : Value} {l : List Int} (h : Lst w v l) (L : List (Obj ⊕ Ext)) : Lst (lay w L) v l := by
  obtain ⟨d, hd⟩ := lay_ex w L
  rw [hd]; exact h.bw d
theorem lst_of_fn {w : World} {a : Addr} {n cap : Nat} (hn : n ≤ 9223372036854775807) (hsp : a.spot = none) (hb : n ≠ 0 → a.block < w.heap.size) (f : Nat → Int)
    (h : ∀ i, i < n → w.cell? ⟨a.block, a.off + i, none⟩ = some (.int .i64 (f i)) ∧ (Lit.int .i64 (f i)).wf = true) :
    Lst w (.slice (some a) n cap) ((List.range n).map f) := by
  have e : ∀ i, i < n → ((List.range n).map f).getD i 0 = f i := fun i hi => by simp [List.getD, hi]
  refine ⟨some a, cap, by simp, by simpa using hn, fun i hi => ?_, fun hl => ⟨a.block, a.off, by cases a; simp_all, hb (by rintro rfl; exact hl rfl), fun i hi => ?_⟩⟩
  · have hi' : i < n := by simpa using hi
    rw [e i hi']; exact (h i hi').2
  · have hi' : i < n := by simpa using hi
    rw [e i hi']; exact (h i hi').1
theorem add_block1 (a : Addr) (n : Nat) : (a.add n).block = a.block := by
  unfold Addr.add; split <;> rfl
theorem add_none1 {a : Addr} (h : a.spot = none) (n : Nat) : a.add n = ⟨a.block, a.off + n, none⟩ := by
  unfold Addr.add
  split
  · rename_i h0
    have : n = 0 := by simpa using h0
    subst this
    cases a; simp_all
  · rfl
section
variable {H : Type} {enc : TypeId × Value → H} {P : Program}
theorem lst_of {w : World} {t e : TypeId} {fuel : Nat} {v : Value} {x : DataW H × List MemPlace} (ht : P.underlying t = some (.slice e)) (he : P.underlying e = some (.int .i64)) (hC : P.cellsOf e = 1)
    (hf : DataW.trod enc P w 0 (fun _ => true) true fuel t [v] = some x) : ∃ l, Lst w v l := by
  rcases Go.Deep.open_slice ht hf with ⟨hcs, _⟩ | ⟨a', len', cap', m, n, D, Pl, hcs, hb, hl, hm, hmm, hx, hel⟩
  · obtain rfl : v = .slice none 0 0 := by simpa using hcs
    exact ⟨[], none, 0, rfl, by simp, fun i hi => absurd hi (Nat.not_lt_zero i), fun h => absurd rfl h⟩
  · obtain rfl : v = .slice (some a') len' cap' := by simpa using hcs
    simp only [if_true] at hmm
    subst hmm
    obtain ⟨f, hF⟩ := Go.Deep.choose_lt (α := Int) (p := fun i y => w.cell? (a'.add i) = some (.int .i64 y) ∧ (Lit.int .i64 y).wf = true) (n := m) (fun i him => by
      obtain ⟨cs', hc', ht'⟩ := hel i him
      rw [hC] at hc'
      obtain ⟨_, hcl, hat⟩ := World.cells?_some hc'
      obtain ⟨y, rfl, _, hw⟩ := DataW.trod_int he ht'
      exact ⟨y, by simpa [Go.Deep.add_add] using hat 0 (by simp), hw⟩)
    have hspot : 0 < len' → a'.spot = none := fun hp => by
      have := (hF 0 (by omega)).1
      unfold World.cell? at this
      cases hs : a'.spot
      · rfl
      · simp [Addr.add, hs] at this
        try (split at this <;> simp at this)
    have hbl : 0 < len' → a'.block < w.heap.size := fun hp => by
      obtain ⟨cs', hc', _⟩ := hel 0 (by omega)
      rw [hC] at hc'
      have := World.cells?_block hc' (by omega)
      simpa [add_block1] using this
    by_cases hz : len' = 0
    · subst hz
      exact ⟨[], some a', _, rfl, by simp, fun i hi => absurd hi (Nat.not_lt_zero i), fun hne => absurd rfl hne⟩
    · have hM : maxLen = 9223372036854775807 := by decide
      refine ⟨_, lst_of_fn (by omega) (hspot (by omega)) (fun _ => hbl (by omega)) f fun i hi' => ?_⟩
      have g := hF i (by omega)
      rw [add_none1 (hspot (by omega))] at g
      exact g

/-- A struct of a string, two slices and three ints, by value. -/
structure TrkV where
  s : ByteArray
  g : List Int
  d : List Int
  p : Int
  q : Int
  r : Int
def Trk (w : World) (v : Value) (t : TrkV) : Prop :=
  ∃ vg vd, v = .agg #[.string t.s, vg, vd, .int .i64 t.p, .int .i64 t.q, .int .i64 t.r] ∧ t.s.size ≤ 9223372036854775807 ∧ Lst w vg t.g ∧ Lst w vd t.d ∧
    (Lit.int .i64 t.p).wf = true ∧ (Lit.int .i64 t.q).wf = true ∧ (Lit.int .i64 t.r).wf = true
theorem Trk.lay {w : World} {v : Value} {t : TrkV} (h : Trk w v t) (L : List (Obj ⊕ Ext)) : Trk (lay w L) v t := by
  obtain ⟨vg, vd, h1, h0, h2, h3, h4⟩ := h
  exact ⟨vg, vd, h1, h0, h2.lay L, h3.lay L, h4⟩
open Go.ChangeShapes Go.WideShapes Go.Deep in
theorem trk_of {w : World} {r : Reach} {b0 : Nat} {t ts ti tt te : TypeId} {f0 f1 f2 f3 f4 f5 : Field} {v : Value} {d : DataW H} {ps : List MemPlace} (hs : P.underlying t = some (.struct #[f0, f1, f2, f3, f4, f5]))
    (hone : oneCellFields P #[f0, f1, f2, f3, f4, f5] = true) (hC : P.cellsOf t = 6) (ht : f0.type = ts ∧ f1.type = tt ∧ f2.type = tt ∧ f3.type = ti ∧ f4.type = ti ∧ f5.type = ti)
    (hS : P.underlying ts = some .string) (hI : P.underlying ti = some (.int .i64)) (hT : P.underlying tt = some (.slice te)) (hE : P.underlying te = some (.int .i64)) (hc1 : P.cellsOf te = 1)
    (hv : Value.okWide P w r b0 t v) (h : DataW.Trod enc P w 0 (fun _ => true) true t v d ps) : ∃ x, Trk w v x := by
  obtain ⟨cs, rfl, hsz⟩ := okWide_struct hs hv
  obtain ⟨l⟩ := cs
  match l, hsz.trans hC with
  | [c0, c1, c2, c3, c4, c5], _ =>
    obtain ⟨fuel, hf⟩ := h
    obtain ⟨xs, n, _, hx, _, hlen, hg⟩ := DataW.trod_struct hs hf
    obtain ⟨o0, k0⟩ := hone_of hone 0 f0 rfl
    obtain ⟨o1, k1⟩ := hone_of hone 1 f1 rfl
    obtain ⟨o2, k2⟩ := hone_of hone 2 f2 rfl
    obtain ⟨o3, k3⟩ := hone_of hone 3 f3 rfl
    obtain ⟨o4, k4⟩ := hone_of hone 4 f4 rfl
    obtain ⟨o5, k5⟩ := hone_of hone 5 f5 rfl
    match xs, hlen with
    | [y0, y1, y2, y3, y4, y5], _ =>
      have e0 : DataW.trod enc P w 0 (fun _ => true) true n f0.type [c0] = some y0 := by simpa [Value.cells, o0, k0] using hg 0 f0 rfl
      have e1 : DataW.trod enc P w 0 (fun _ => true) true n f1.type [c1] = some y1 := by simpa [Value.cells, o1, k1] using hg 1 f1 rfl
      have e2 : DataW.trod enc P w 0 (fun _ => true) true n f2.type [c2] = some y2 := by simpa [Value.cells, o2, k2] using hg 2 f2 rfl
      have e3 : DataW.trod enc P w 0 (fun _ => true) true n f3.type [c3] = some y3 := by simpa [Value.cells, o3, k3] using hg 3 f3 rfl
      have e4 : DataW.trod enc P w 0 (fun _ => true) true n f4.type [c4] = some y4 := by simpa [Value.cells, o4, k4] using hg 4 f4 rfl
      have e5 : DataW.trod enc P w 0 (fun _ => true) true n f5.type [c5] = some y5 := by simpa [Value.cells, o5, k5] using hg 5 f5 rfl
      obtain ⟨t0, t1, t2, t3, t4, t5⟩ := ht
      rw [t0] at e0; rw [t1] at e1; rw [t2] at e2; rw [t3] at e3; rw [t4] at e4; rw [t5] at e5
      obtain ⟨s, q0, _, ws⟩ := DataW.trod_string hS e0
      obtain ⟨lg, hlg⟩ := lst_of hT hE hc1 e1
      obtain ⟨ld, hld⟩ := lst_of hT hE hc1 e2
      obtain ⟨x3, q3, _, w3⟩ := DataW.trod_int hI e3
      obtain ⟨x4, q4, _, w4⟩ := DataW.trod_int hI e4
      obtain ⟨x5, q5, _, w5⟩ := DataW.trod_int hI e5
      simp only [List.cons.injEq, and_true] at q0 q3 q4 q5
      subst q0 q3 q4 q5
      exact ⟨⟨s, lg, ld, x3, x4, x5⟩, c1, c2, rfl, ws, hlg, hld, w3, w4, w5⟩
end
end Go.Proofs.YtlkphcjlgbimkaaGreat
