/- A slice of deviation entries that reads as a list of pairs; opening it off a row. -/
import Derived.Test.YtlkphcjlgbimkaaProg
import Derived.Test.YtlkphcjlgbimkaaLay
import Derived.Test.YtlkphcjlgbimkaaRegion
import Derived.Test.YtlkphcjlgbimkaaMix
import Derived.WalkKit
import Derived.WalkSpells
import Derived.WalkLawsBesides
import Derived.Lib.Hide
import Derived.BigQuiet
import Derived.Test.YtlkphcjlgbimkaaPlain
import Derived.Test.YtlkphcjlgbimkaaCompPlain
import Derived.Deep.Slices
import Derived.ChangeSame
import Derived.WideShapes
import Derived.ChangeShapes
namespace Go.Proofs.Ytlkphcjlgbimkaa
open Go.RowKit

/-- The value is a slice that reads, in this world, as these entries. -/
def Tabs (w : World) (v : Value) (l : Tl) : Prop :=
  ∃ a cap, v = .slice a l.length cap ∧ l.length ≤ 9223372036854775807 ∧ (l ≠ [] → ∃ b o, a = some ⟨b, o, none⟩ ∧ b < w.heap.size ∧
    ∀ i, i < l.length → w.cell? ⟨b, o + i * 2, none⟩ = some (.int .i64 (hd l i)) ∧ w.cell? ⟨b, o + i * 2 + 1, none⟩ = some (.int .i64 (dv l i)) ∧ (Lit.int .i64 (hd l i)).wf = true ∧ (Lit.int .i64 (dv l i)).wf = true)
theorem Tabs.bw {w : World} {v : Value} {l : Tl} (h : Tabs w v l) (d : Ext) : Tabs (bw w d) v l := by
  obtain ⟨a, cap, h1, h2, h3⟩ := h
  refine ⟨a, cap, h1, h2, fun hl => ?_⟩
  obtain ⟨b, o, h4, h5, h6⟩ := h3 hl
  exact ⟨b, o, h4, Nat.lt_of_lt_of_le h5 (bw_le w d), fun i hi => ⟨(bw_cell w d b (o + i * 2) h5).trans (h6 i hi).1, (bw_cell w d b (o + i * 2 + 1) h5).trans (h6 i hi).2.1, (h6 i hi).2.2⟩⟩
theorem Tabs.nil (w : World) : Tabs w (.slice none 0 0) [] := ⟨none, 0, rfl, by simp, fun h => absurd rfl h⟩
theorem tabs_of_fn {w : World} {a : Addr} {n cap : Nat} (hn : n ≤ 9223372036854775807) (hsp : a.spot = none) (hb : n ≠ 0 → a.block < w.heap.size) (f : Nat → Int × Int)
    (h : ∀ i, i < n → w.cell? ⟨a.block, a.off + i * 2, none⟩ = some (.int .i64 (f i).1) ∧ w.cell? ⟨a.block, a.off + i * 2 + 1, none⟩ = some (.int .i64 (f i).2) ∧ (Lit.int .i64 (f i).1).wf = true ∧ (Lit.int .i64 (f i).2).wf = true) :
    Tabs w (.slice (some a) n cap) ((List.range n).map f) := by
  refine ⟨some a, cap, by simp, by simpa using hn, fun hl => ⟨a.block, a.off, by cases a; simp_all, hb (by rintro rfl; exact hl rfl), fun i hi => ?_⟩⟩
  have hi' : i < n := by simpa using hi
  have e : ((List.range n).map f).getD i (0, 0) = f i := by simp [List.getD, hi']
  unfold hd dv
  rw [e]
  exact h i hi'

theorem add_block (a : Addr) (n : Nat) : (a.add n).block = a.block := by
  unfold Addr.add; split <;> rfl
theorem add_none {a : Addr} (h : a.spot = none) (n : Nat) : a.add n = ⟨a.block, a.off + n, none⟩ := by
  unfold Addr.add
  split
  · rename_i h0
    have : n = 0 := by simpa using h0
    subst this
    cases a; simp_all
  · rfl
section
variable {H : Type} {enc : TypeId × Value → H} {P : Program}
theorem tabs_of {w : World} {t e ti : TypeId} {r : Reach} {b0 : Nat} {f0 f1 : Field} {v : Value} {d : DataW H} {ps : List MemPlace} (ht : P.underlying t = some (.slice e)) (he : P.underlying e = some (.struct #[f0, f1])) (hi : P.underlying ti = some (.int .i64))
    (hC : P.cellsOf e = 2) (h0 : f0.type = ti ∧ f0.offset = 0) (h1 : f1.type = ti ∧ f1.offset = 1) (hc : P.cellsOf ti = 1) (hval : Value.okWide P w r b0 t v) (h : DataW.Trod enc P w 0 (fun _ => true) true t v d ps) : ∃ l, Tabs w v l := by
  obtain ⟨a, len, cap, rfl⟩ := Go.WideShapes.okWide_slice ht hval
  obtain ⟨fuel, hf⟩ := h
  rcases Go.Deep.open_slice ht hf with ⟨hcs, _⟩ | ⟨a', len', cap', m, n, D, Pl, hcs, hb, hl, hm, hmm, hx, hel⟩
  · have : (.slice a len cap : Value) = .slice none 0 0 := by simpa [Value.cells] using hcs
    rw [this]
    exact ⟨[], Tabs.nil w⟩
  · have hv : (.slice a len cap : Value) = .slice (some a') len' cap' := by simpa [Value.cells] using hcs
    rw [hv]
    simp only [if_true] at hmm
    subst hmm
    obtain ⟨f, hF⟩ := Go.Deep.choose_lt (α := Int × Int) (p := fun i x => w.cell? (a'.add (i * 2)) = some (.int .i64 x.1) ∧ w.cell? (a'.add (i * 2 + 1)) = some (.int .i64 x.2) ∧ (Lit.int .i64 x.1).wf = true ∧ (Lit.int .i64 x.2).wf = true) (n := m) (fun i him => by
      obtain ⟨cs', hc', ht'⟩ := hel i him
      rw [hC] at hc'
      obtain ⟨_, hcl, hat⟩ := World.cells?_some hc'
      obtain ⟨y0, y1, k, hy, _, g0, g1⟩ := Go.ChangeShapes.trod_struct2 he ht'
      rw [h0.1, h0.2, hc] at g0
      rw [h1.1, h1.2, hc] at g1
      obtain ⟨x0, q0, _, w0⟩ := DataW.trod_int hi g0
      obtain ⟨x1, q1, _, w1⟩ := DataW.trod_int hi g1
      match cs', hcl with
      | [u0, u1], _ =>
        simp at q0 q1
        subst q0 q1
        refine ⟨(x0, x1), ?_, ?_, w0, w1⟩
        · simpa [Go.Deep.add_add] using hat 0 (by omega)
        · simpa [Go.Deep.add_add] using hat 1 (by omega))
    have hspot : 0 < len' → a'.spot = none := fun hp => by
      have := (hF 0 (by omega)).1
      unfold World.cell? at this
      cases hs : a'.spot
      · rfl
      · simp [Addr.add, hs] at this
        split at this <;> simp at this
    have hbl : 0 < len' → a'.block < w.heap.size := fun hp => by
      obtain ⟨cs', hc', _⟩ := hel 0 (by omega)
      rw [hC] at hc'
      have := World.cells?_block hc' (by omega)
      simpa [add_block] using this
    by_cases hz : len' = 0
    · subst hz
      exact ⟨[], some a', _, rfl, by simp, fun hne => absurd rfl hne⟩
    · have hM : maxLen = 9223372036854775807 := by decide
      refine ⟨_, tabs_of_fn (by omega) (hspot (by omega)) (fun _ => hbl (by omega)) f fun i hi' => ?_⟩
      have g := hF i (by omega)
      have hs := hspot (by omega)
      rw [add_none hs, add_none hs] at g
      simpa [Nat.add_assoc] using g
end
end Go.Proofs.Ytlkphcjlgbimkaa
