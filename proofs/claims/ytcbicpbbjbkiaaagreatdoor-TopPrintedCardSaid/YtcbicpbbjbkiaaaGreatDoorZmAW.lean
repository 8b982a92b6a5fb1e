/- Contracts and plain laws, several texts in one: OpG; OpR; CPr -/
import Derived.Test.YtcbicpbbjbkiaaaGreatDoorProg
import Derived.WalkKit
import Derived.WalkSpells
import Derived.WalkLawsBesides
import Derived.Lib.Hide
import Derived.BigQuiet
import Derived.Deep.Slices
import Derived.Deep.Fields
import Derived.ChangeSame
import Derived.WideShapes
import Derived.ChangeShapes
import Derived.Lib.SmallJoins
import Derived.Test.YtcbicpbbjbkiaaaGreatDoorRows
import Derived.Test.YtcbicpbbjbkiaaaGreatDoorCards
import Derived.Test.YtcbicpbbjbkiaaaGreatDoorTie
import Derived.ChangeVars
import Derived.JoinedOf
import Derived.RowKit
import Derived.RowKitTokens
import Derived.LaidLaws
import Derived.Lib.LaidTab
import Derived.Shelf.Vars
import Derived.Stop.LaidErr
import Derived.SevenTiedAt
import Derived.Test.YtcbicpbbjbkiaaaGreatDoorZmAA
import Derived.Test.YtcbicpbbjbkiaaaGreatDoorZmAG
import Derived.Test.YtcbicpbbjbkiaaaGreatDoorZmAV
namespace Go.Proofs.YtcbicpbbjbkiaaaGreatDoor
open Go.RowKit

theorem addO_block (a : Addr) (n : Nat) : (a.add n).block = a.block := by
 unfold Addr.add; split <;> rfl
theorem addO_none {a : Addr} (h : a.spot = none) (n : Nat) : a.add n = ⟨a.block, a.off + n, none⟩ := by
 unfold Addr.add
 split
 ·rename_i h0
  have : n = 0 := by simpa using h0
  subst this
  cases a; simp_all
 ·rfl
section
variable {H : Type} {enc : TypeId × Value → H} {α : Type} {R : RecT α} {P : Program}
theorem slG_of (hR : RecOk R) (ht : P.underlying R.S = some (.slice R.E)) (hC : P.cellsOf R.E = R.k) {w : World} {Q : α → Prop} {fuel : Nat} {v : Value} {x : DataW H × List MemPlace}
  (hel : ∀ n cs y, DataW.trod enc P w 0 (fun _ => true) true n R.E cs = some y → cs.length = R.k → ∃ z, cs = R.enc z ∧ R.wf z ∧ Q z)
  (hf : DataW.trod enc P w 0 (fun _ => true) true fuel R.S [v] = some x) : ∃ l, SlG R w v l ∧ ∀ z ∈ l, Q z := by
 have hM : maxLen = 9223372036854775807 := by decide
 rcases Go.Deep.open_slice ht hf with ⟨hcs, _⟩ | ⟨a', len', cap', m, n, D, Pl, hcs, hb, hl, hm, hmm, hx, hel'⟩
 ·obtain rfl : v = .slice none 0 0 := by simpa using hcs
  exact ⟨[], SlG.nil R w, fun z hz => absurd hz List.not_mem_nil⟩
 ·obtain rfl : v = .slice (some a') len' cap' := by simpa using hcs
  simp only [if_true] at hmm
  subst hmm
  have hex : ∀ i : Nat, i < m → ∃ z : α, R.wf z ∧ Q z ∧ (∀ (j : Nat) u, (R.enc z)[j]? = some u → w.cell? ((a'.add (i * R.k)).add j) = some u) ∧ ((a'.add (i * R.k)).block < w.heap.size) := fun i him => by
   obtain ⟨cs', hc', ht'⟩ := hel' i him
   rw [hC] at hc'
   have hblk := World.cells?_block hc' hR.pos
   obtain ⟨_, hcl, hat⟩ := World.cells?_some hc'
   obtain ⟨z, rfl, hz, hq⟩ := hel _ _ _ ht' hcl
   refine ⟨z, hz, hq, fun j u hu => ?_, hblk⟩
   have hj : j < R.k := by rw [← hcl]; exact (List.getElem?_eq_some_iff.1 hu).1
   rw [hat j hj, hu]
  by_cases hz : len' = 0
  ·subst hz
   exact ⟨[], slG_none (by omega), fun z hz => absurd hz List.not_mem_nil⟩
  ·obtain ⟨z0, _, _, h0, hb0⟩ := hex 0 (by omega)
   have hspot : a'.spot = none := by
    have hlen := hR.len z0
    have hp := hR.pos
    obtain ⟨u, hu⟩ : ∃ u, (R.enc z0)[0]? = some u := ⟨_, List.getElem?_eq_getElem (by omega)⟩
    have := h0 0 u hu
    unfold World.cell? at this
    cases hs : a'.spot
    ·rfl
    ·simp [Addr.add, hs] at this
     try (split at this <;> simp at this)
   have hbl : a'.block < w.heap.size := by simpa [addO_block] using hb0
   have : Nonempty α := ⟨z0⟩
   have hch : ∃ f : Nat → α, ∀ i, i < len' → R.wf (f i) ∧ Q (f i) ∧ ∀ (j : Nat) u, (R.enc (f i))[j]? = some u → w.cell? ⟨a'.block, a'.off + (i * R.k + j), none⟩ = some u := by
    have : ∀ i, ∃ z : α, i < len' → R.wf z ∧ Q z ∧ ∀ (j : Nat) u, (R.enc z)[j]? = some u → w.cell? ⟨a'.block, a'.off + (i * R.k + j), none⟩ = some u := fun i => by
     by_cases hi : i < len'
     ·obtain ⟨z, k1, k2, k3, _⟩ := hex i (by omega)
      refine ⟨z, fun _ => ⟨k1, k2, fun j u hu => ?_⟩⟩
      have := k3 j u hu
      rw [addO_none hspot, addO_none (by rfl)] at this
      simpa [Nat.add_assoc] using this
     ·exact ⟨z0, fun h => absurd h hi⟩
    exact ⟨fun i => Classical.choose (this i), fun i hi => Classical.choose_spec (this i) hi⟩
   obtain ⟨f, hF⟩ := hch
   have hlen : ((List.range len').map f).length = len' := by simp
   refine ⟨(List.range len').map f, ⟨some a', m, by rw [hlen], by rw [hlen]; omega, fun z hz => ?_, fun _ => ⟨a'.block, a'.off, by cases a'; simp_all, hbl, fun i z hz j u hu => ?_⟩⟩, fun z hz => ?_⟩
   ·obtain ⟨i, hi, rfl⟩ := List.mem_map.1 hz
    exact (hF i (List.mem_range.1 hi)).1
   ·have hi : i < len' := by have := (List.getElem?_eq_some_iff.1 hz).1; simpa using this
    have : z = f i := by
     rw [List.getElem?_map, List.getElem?_range hi] at hz
     simpa using hz.symm
    subst this
    exact (hF i hi).2.2 j u hu
   ·obtain ⟨i, hi, rfl⟩ := List.mem_map.1 hz
    exact (hF i (List.mem_range.1 hi)).2.1
end
end Go.Proofs.YtcbicpbbjbkiaaaGreatDoor
namespace Go.Proofs.YtcbicpbbjbkiaaaGreatDoor
set_option maxRecDepth 100000
open Go.RowKit

section
variable {H : Type} {enc : TypeId × Value → H} {P : Program}
open Go.ChangeShapes Go.WideShapes Go.Deep in
theorem sgr_elem {w : World} {t ts ti td : TypeId} {f0 f1 f2 f3 f4 f5 f6 f7 f8 f9 g0 g1 : Field} (hs : P.underlying t = some (.struct #[f0, f1, f2, f3, f4, f5, f6, f7, f8, f9]))
  (h0 : f0.type = ts ∧ f0.offset = 0) (h1 : f1.type = ti ∧ f1.offset = 1) (h2 : f2.type = td ∧ f2.offset = 2) (h3 : f3.type = ti ∧ f3.offset = 4) (h4 : f4.type = ti ∧ f4.offset = 5)
  (h5 : f5.type = ti ∧ f5.offset = 6) (h6 : f6.type = ti ∧ f6.offset = 7) (h7 : f7.type = ti ∧ f7.offset = 8) (h8 : f8.type = ti ∧ f8.offset = 9) (h9 : f9.type = ti ∧ f9.offset = 10)
  (hd : P.underlying td = some (.struct #[g0, g1])) (hg0 : g0.type = ti ∧ g0.offset = 0) (hg1 : g1.type = ti ∧ g1.offset = 1)
  (cS : P.cellsOf ts = 1) (cI : P.cellsOf ti = 1) (cD : P.cellsOf td = 2)
  (hS : P.underlying ts = some .string) (hI : P.underlying ti = some (.int .i64))
  (n : Nat) (cs : List Value) (y : DataW H × List MemPlace) (hf : DataW.trod enc P w 0 (fun _ => true) true n t cs = some y) (hl : cs.length = 11) : ∃ (s : ByteArray) (x1 x2 x3 x4 x5 x6 x7 x8 x9 x10 : Int), cs = [.string s, .int .i64 x1, .int .i64 x2, .int .i64 x3, .int .i64 x4, .int .i64 x5, .int .i64 x6, .int .i64 x7, .int .i64 x8, .int .i64 x9, .int .i64 x10] ∧ s.size ≤ 9223372036854775807 := by
 match cs, hl with
 | [c0, c1, c2, c3, c4, c5, c6, c7, c8, c9, c10], _ =>
  obtain ⟨xs, m, _, hx, _, hlen, hg⟩ := DataW.trod_struct hs hf
  match xs, hlen with
  | [y0, y1, y2, y3, y4, y5, y6, y7, y8, y9], _ =>
   have e0 : DataW.trod enc P w 0 (fun _ => true) true m ts [c0] = some y0 := by simpa [Value.cells, h0, cS] using hg 0 f0 rfl
   have e1 : DataW.trod enc P w 0 (fun _ => true) true m ti [c1] = some y1 := by simpa [Value.cells, h1, cI] using hg 1 f1 rfl
   have e2 : DataW.trod enc P w 0 (fun _ => true) true m td [c2, c3] = some y2 := by simpa [Value.cells, h2, cD] using hg 2 f2 rfl
   have e3 : DataW.trod enc P w 0 (fun _ => true) true m ti [c4] = some y3 := by simpa [Value.cells, h3, cI] using hg 3 f3 rfl
   have e4 : DataW.trod enc P w 0 (fun _ => true) true m ti [c5] = some y4 := by simpa [Value.cells, h4, cI] using hg 4 f4 rfl
   have e5 : DataW.trod enc P w 0 (fun _ => true) true m ti [c6] = some y5 := by simpa [Value.cells, h5, cI] using hg 5 f5 rfl
   have e6 : DataW.trod enc P w 0 (fun _ => true) true m ti [c7] = some y6 := by simpa [Value.cells, h6, cI] using hg 6 f6 rfl
   have e7 : DataW.trod enc P w 0 (fun _ => true) true m ti [c8] = some y7 := by simpa [Value.cells, h7, cI] using hg 7 f7 rfl
   have e8 : DataW.trod enc P w 0 (fun _ => true) true m ti [c9] = some y8 := by simpa [Value.cells, h8, cI] using hg 8 f8 rfl
   have e9 : DataW.trod enc P w 0 (fun _ => true) true m ti [c10] = some y9 := by simpa [Value.cells, h9, cI] using hg 9 f9 rfl
   obtain ⟨b, q0, _, wb⟩ := DataW.trod_string hS e0
   obtain ⟨x1, q1, _, w1⟩ := DataW.trod_int hI e1
   obtain ⟨z0, z1, m2, hx2, _, k0, k1⟩ := trod_struct2 hd e2
   rw [hg0.1, hg0.2, cI] at k0
   rw [hg1.1, hg1.2, cI] at k1
   simp only [List.drop_zero, List.drop_succ_cons, List.take_succ_cons, List.take_zero] at k0 k1
   obtain ⟨x2, q2, _, w2⟩ := DataW.trod_int hI k0
   obtain ⟨x3, q3, _, w3⟩ := DataW.trod_int hI k1
   obtain ⟨x4, q4, _, w4⟩ := DataW.trod_int hI e3
   obtain ⟨x5, q5, _, w5⟩ := DataW.trod_int hI e4
   obtain ⟨x6, q6, _, w6⟩ := DataW.trod_int hI e5
   obtain ⟨x7, q7, _, w7⟩ := DataW.trod_int hI e6
   obtain ⟨x8, q8, _, w8⟩ := DataW.trod_int hI e7
   obtain ⟨x9, q9, _, w9⟩ := DataW.trod_int hI e8
   obtain ⟨x10, q10, _, w10⟩ := DataW.trod_int hI e9
   simp only [List.cons.injEq, and_true] at q0 q1 q2 q3 q4 q5 q6 q7 q8 q9 q10
   subst q0 q1 q2 q3 q4 q5 q6 q7 q8 q9 q10
   exact ⟨b, x1, x2, x3, x4, x5, x6, x7, x8, x9, x10, rfl, by have := wb; unfold maxLen at this; simpa using this⟩
open Go.ChangeShapes Go.WideShapes Go.Deep in
theorem tri_elem {w : World} {t ti td : TypeId} {f0 f1 f2 g0 g1 : Field} (hs : P.underlying t = some (.struct #[f0, f1, f2]))
  (h0 : f0.type = td ∧ f0.offset = 0) (h1 : f1.type = td ∧ f1.offset = 2) (h2 : f2.type = td ∧ f2.offset = 4)
  (hd : P.underlying td = some (.struct #[g0, g1])) (hg0 : g0.type = ti ∧ g0.offset = 0) (hg1 : g1.type = ti ∧ g1.offset = 1)
  (cI : P.cellsOf ti = 1) (cD : P.cellsOf td = 2) (hI : P.underlying ti = some (.int .i64))
  (n : Nat) (cs : List Value) (y : DataW H × List MemPlace) (hf : DataW.trod enc P w 0 (fun _ => true) true n t cs = some y) (hl : cs.length = 6) :
  ∃ a b c d e f : Int, cs = [.int .i64 a, .int .i64 b, .int .i64 c, .int .i64 d, .int .i64 e, .int .i64 f] := by
 match cs, hl with
 | [c0, c1, c2, c3, c4, c5], _ =>
  obtain ⟨y0, y1, y2, m, hx, _, e0, e1, e2⟩ := trod_struct3 hs hf
  rw [h0.1, h0.2, cD] at e0
  rw [h1.1, h1.2, cD] at e1
  rw [h2.1, h2.2, cD] at e2
  simp only [List.drop_zero, List.drop_succ_cons, List.take_succ_cons, List.take_zero] at e0 e1 e2
  obtain ⟨z0, z1, m2, hx2, _, k0, k1⟩ := trod_struct2 hd e0
  obtain ⟨z2, z3, m3, hx3, _, k2, k3⟩ := trod_struct2 hd e1
  obtain ⟨z4, z5, m4, hx4, _, k4, k5⟩ := trod_struct2 hd e2
  rw [hg0.1, hg0.2, cI] at k0 k2 k4
  rw [hg1.1, hg1.2, cI] at k1 k3 k5
  simp only [List.drop_zero, List.drop_succ_cons, List.take_succ_cons, List.take_zero] at k0 k1 k2 k3 k4 k5
  obtain ⟨x0, q0, _, w0⟩ := DataW.trod_int hI k0
  obtain ⟨x1, q1, _, w1⟩ := DataW.trod_int hI k1
  obtain ⟨x2, q2, _, w2⟩ := DataW.trod_int hI k2
  obtain ⟨x3, q3, _, w3⟩ := DataW.trod_int hI k3
  obtain ⟨x4, q4, _, w4⟩ := DataW.trod_int hI k4
  obtain ⟨x5, q5, _, w5⟩ := DataW.trod_int hI k5
  simp only [List.cons.injEq, and_true] at q0 q1 q2 q3 q4 q5
  subst q0 q1 q2 q3 q4 q5
  exact ⟨x0, x1, x2, x3, x4, x5, rfl⟩
open Go.ChangeShapes Go.WideShapes Go.Deep in
theorem geo_elem {w : World} {t ti td : TypeId} {f0 f1 f2 f3 g0 g1 : Field} (hs : P.underlying t = some (.struct #[f0, f1, f2, f3]))
  (h0 : f0.type = td ∧ f0.offset = 0) (h1 : f1.type = td ∧ f1.offset = 2) (h2 : f2.type = td ∧ f2.offset = 4) (h3 : f3.type = td ∧ f3.offset = 6)
  (hd : P.underlying td = some (.struct #[g0, g1])) (hg0 : g0.type = ti ∧ g0.offset = 0) (hg1 : g1.type = ti ∧ g1.offset = 1)
  (cI : P.cellsOf ti = 1) (cD : P.cellsOf td = 2) (hI : P.underlying ti = some (.int .i64))
  (n : Nat) (cs : List Value) (y : DataW H × List MemPlace) (hf : DataW.trod enc P w 0 (fun _ => true) true n t cs = some y) (hl : cs.length = 8) :
  ∃ a b c d e f g h : Int, cs = [.int .i64 a, .int .i64 b, .int .i64 c, .int .i64 d, .int .i64 e, .int .i64 f, .int .i64 g, .int .i64 h] := by
 match cs, hl with
 | [c0, c1, c2, c3, c4, c5, c6, c7], _ =>
  obtain ⟨xs, m, _, hx, _, hlen, hg⟩ := DataW.trod_struct hs hf
  match xs, hlen with
  | [y0, y1, y2, y3], _ =>
   have e0 : DataW.trod enc P w 0 (fun _ => true) true m td [c0, c1] = some y0 := by simpa [Value.cells, h0, cD] using hg 0 f0 rfl
   have e1 : DataW.trod enc P w 0 (fun _ => true) true m td [c2, c3] = some y1 := by simpa [Value.cells, h1, cD] using hg 1 f1 rfl
   have e2 : DataW.trod enc P w 0 (fun _ => true) true m td [c4, c5] = some y2 := by simpa [Value.cells, h2, cD] using hg 2 f2 rfl
   have e3 : DataW.trod enc P w 0 (fun _ => true) true m td [c6, c7] = some y3 := by simpa [Value.cells, h3, cD] using hg 3 f3 rfl
   obtain ⟨z0, z1, m2, hx2, _, k0, k1⟩ := trod_struct2 hd e0
   obtain ⟨z2, z3, m3, hx3, _, k2, k3⟩ := trod_struct2 hd e1
   obtain ⟨z4, z5, m4, hx4, _, k4, k5⟩ := trod_struct2 hd e2
   obtain ⟨z6, z7, m5, hx5, _, k6, k7⟩ := trod_struct2 hd e3
   rw [hg0.1, hg0.2, cI] at k0 k2 k4 k6
   rw [hg1.1, hg1.2, cI] at k1 k3 k5 k7
   simp only [List.drop_zero, List.drop_succ_cons, List.take_succ_cons, List.take_zero] at k0 k1 k2 k3 k4 k5 k6 k7
   obtain ⟨x0, q0, _, _⟩ := DataW.trod_int hI k0
   obtain ⟨x1, q1, _, _⟩ := DataW.trod_int hI k1
   obtain ⟨x2, q2, _, _⟩ := DataW.trod_int hI k2
   obtain ⟨x3, q3, _, _⟩ := DataW.trod_int hI k3
   obtain ⟨x4, q4, _, _⟩ := DataW.trod_int hI k4
   obtain ⟨x5, q5, _, _⟩ := DataW.trod_int hI k5
   obtain ⟨x6, q6, _, _⟩ := DataW.trod_int hI k6
   obtain ⟨x7, q7, _, _⟩ := DataW.trod_int hI k7
   simp only [List.cons.injEq, and_true] at q0 q1 q2 q3 q4 q5 q6 q7
   subst q0 q1 q2 q3 q4 q5 q6 q7
   exact ⟨x0, x1, x2, x3, x4, x5, x6, x7, rfl⟩
open Go.ChangeShapes Go.WideShapes Go.Deep in
theorem er_elem {w : World} {t ti : TypeId} {g0 g1 : Field} (hd : P.underlying t = some (.struct #[g0, g1])) (hg0 : g0.type = ti ∧ g0.offset = 0) (hg1 : g1.type = ti ∧ g1.offset = 1)
  (cI : P.cellsOf ti = 1) (hI : P.underlying ti = some (.int .i64))
  (n : Nat) (cs : List Value) (y : DataW H × List MemPlace) (hf : DataW.trod enc P w 0 (fun _ => true) true n t cs = some y) (hl : cs.length = 2) :
  ∃ z : ErV, cs = eR.enc z ∧ eR.wf z ∧ True := by
 match cs, hl with
 | [c0, c1], _ =>
  obtain ⟨z0, z1, m2, hx2, _, k0, k1⟩ := trod_struct2 hd hf
  rw [hg0.1, hg0.2, cI] at k0
  rw [hg1.1, hg1.2, cI] at k1
  simp only [List.drop_zero, List.drop_succ_cons, List.take_succ_cons, List.take_zero] at k0 k1
  obtain ⟨x0, q0, _, w0⟩ := DataW.trod_int hI k0
  obtain ⟨x1, q1, _, w1⟩ := DataW.trod_int hI k1
  simp only [List.cons.injEq, and_true] at q0 q1
  subst q0 q1
  exact ⟨⟨x0, x1⟩, rfl, ⟨w0, w1⟩, trivial⟩
open Go.ChangeShapes Go.WideShapes Go.Deep in
theorem ins_elem {w : World} {t ti ts : TypeId} {g0 g1 : Field} (hd : P.underlying t = some (.struct #[g0, g1])) (hg0 : g0.type = ti ∧ g0.offset = 0) (hg1 : g1.type = ts ∧ g1.offset = 1)
  (cI : P.cellsOf ti = 1) (cS : P.cellsOf ts = 1) (hI : P.underlying ti = some (.int .i64))
  (n : Nat) (cs : List Value) (y : DataW H × List MemPlace) (hf : DataW.trod enc P w 0 (fun _ => true) true n t cs = some y) (hl : cs.length = 2) :
  ∃ (a : Int) (c1 : Value) (m : Nat) (y1 : DataW H × List MemPlace), cs = [.int .i64 a, c1] ∧ DataW.trod enc P w 0 (fun _ => true) true m ts [c1] = some y1 := by
 match cs, hl with
 | [c0, c1], _ =>
  obtain ⟨z0, z1, m2, hx2, _, k0, k1⟩ := trod_struct2 hd hf
  rw [hg0.1, hg0.2, cI] at k0
  rw [hg1.1, hg1.2, cS] at k1
  simp only [List.drop_zero, List.drop_succ_cons, List.take_succ_cons, List.take_zero] at k0 k1
  obtain ⟨x0, q0, _, _⟩ := DataW.trod_int hI k0
  simp only [List.cons.injEq, and_true] at q0
  subst q0
  exact ⟨x0, c1, m2, z1, rfl, k1⟩
end
theorem sgr_arg {H : Type} {enc : TypeId × Value → H} {w : World} {r : Reach} {b0 : Nat} {v : Value} {d : DataW H} {ps : List MemPlace} (hv : Value.okWide Tryz.prog w r b0 28 v) (h : DataW.Trod enc Tryz.prog w 0 (fun _ => true) true 28 v d ps) :
  ∃ (s : ByteArray) (x1 x2 x3 x4 x5 x6 x7 x8 x9 x10 : Int), v = .agg #[.string s, .int .i64 x1, .int .i64 x2, .int .i64 x3, .int .i64 x4, .int .i64 x5, .int .i64 x6, .int .i64 x7, .int .i64 x8, .int .i64 x9, .int .i64 x10] ∧ s.size ≤ 9223372036854775807 := by
 have hC : Tryz.prog.cellsOf 28 = 11 := by kernel_rfl
 obtain ⟨cs, rfl, hsz⟩ := Go.WideShapes.okWide_struct Tryz.underlying28 hv
 obtain ⟨l⟩ := cs
 obtain ⟨fuel, hf⟩ := h
 obtain ⟨s, x1, x2, x3, x4, x5, x6, x7, x8, x9, x10, hs, hw⟩ := sgr_elem (ts := 9) (ti := 3) (td := 26) Tryz.underlying28 ⟨rfl, rfl⟩ ⟨rfl, rfl⟩ ⟨rfl, rfl⟩ ⟨rfl, rfl⟩ ⟨rfl, rfl⟩ ⟨rfl, rfl⟩ ⟨rfl, rfl⟩ ⟨rfl, rfl⟩ ⟨rfl, rfl⟩ ⟨rfl, rfl⟩ Tryz.underlying26 ⟨rfl, rfl⟩ ⟨rfl, rfl⟩ (by kernel_rfl) (by kernel_rfl) (by kernel_rfl) Tryz.underlying9 Tryz.underlying3 fuel l _ hf (hsz.trans hC)
 exact ⟨s, x1, x2, x3, x4, x5, x6, x7, x8, x9, x10, by rw [hs], hw⟩
theorem geo_arg {H : Type} {enc : TypeId × Value → H} {w : World} {r : Reach} {b0 : Nat} {v : Value} {d : DataW H} {ps : List MemPlace} (hv : Value.okWide Tryz.prog w r b0 31 v) (h : DataW.Trod enc Tryz.prog w 0 (fun _ => true) true 31 v d ps) :
  ∃ a b c d e f g h : Int, v = .agg #[.int .i64 a, .int .i64 b, .int .i64 c, .int .i64 d, .int .i64 e, .int .i64 f, .int .i64 g, .int .i64 h] := by
 have hC : Tryz.prog.cellsOf 31 = 8 := by kernel_rfl
 obtain ⟨cs, rfl, hsz⟩ := Go.WideShapes.okWide_struct Tryz.underlying31 hv
 obtain ⟨l⟩ := cs
 obtain ⟨fuel, hf⟩ := h
 obtain ⟨x0, x1, x2, x3, x4, x5, x6, x7, hs⟩ := geo_elem (ti := 3) (td := 29) Tryz.underlying31 ⟨rfl, rfl⟩ ⟨rfl, rfl⟩ ⟨rfl, rfl⟩ ⟨rfl, rfl⟩ Tryz.underlying29 ⟨rfl, rfl⟩ ⟨rfl, rfl⟩ (by kernel_rfl) (by kernel_rfl) Tryz.underlying3 fuel l _ hf (hsz.trans hC)
 exact ⟨x0, x1, x2, x3, x4, x5, x6, x7, by rw [hs]⟩
theorem ins_arg {H : Type} {enc : TypeId × Value → H} {w : World} {r : Reach} {b0 : Nat} {v : Value} {d : DataW H} {ps : List MemPlace} (hv : Value.okWide Tryz.prog w r b0 24 v) (h : DataW.Trod enc Tryz.prog w 0 (fun _ => true) true 24 v d ps) :
  ∃ (a : Int) (u : Value) (l : List ErV), v = .agg #[.int .i64 a, u] ∧ SlG eR w u l := by
 have hC : Tryz.prog.cellsOf 24 = 2 := by kernel_rfl
 have hT : Tryz.prog.cellsOf 22 = 1 := by kernel_rfl
 have hI1 : Tryz.prog.cellsOf 3 = 1 := by kernel_rfl
 obtain ⟨cs, rfl, hsz⟩ := Go.WideShapes.okWide_struct Tryz.underlying24 hv
 obtain ⟨l⟩ := cs
 obtain ⟨fuel, hf⟩ := h
 obtain ⟨x0, c1, m, y1, hs, k1⟩ := ins_elem (ti := 3) (ts := 22) Tryz.underlying24 ⟨rfl, rfl⟩ ⟨rfl, rfl⟩ hI1 hT Tryz.underlying3 fuel l _ hf (hsz.trans hC)
 obtain ⟨le, hle, -⟩ := slG_of eOk Tryz.underlying22 (by kernel_rfl) (Q := fun _ => True) (fun n cs y hy hc => er_elem (ti := 3) Tryz.underlying144 ⟨rfl, rfl⟩ ⟨rfl, rfl⟩ hI1 Tryz.underlying3 n cs y hy hc) k1
 exact ⟨x0, c1, le, by rw [hs], hle⟩
theorem tri_arg {H : Type} {enc : TypeId × Value → H} {w : World} {r : Reach} {b0 : Nat} {v : Value} {d : DataW H} {ps : List MemPlace} (hv : Value.okWide Tryz.prog w r b0 33 v) (h : DataW.Trod enc Tryz.prog w 0 (fun _ => true) true 33 v d ps) :
  ∃ a b c d e f : Int, v = (.agg #[.int .i64 (a), .int .i64 (b), .int .i64 (c), .int .i64 (d), .int .i64 (e), .int .i64 (f)]) := by
 have hC : Tryz.prog.cellsOf 33 = 6 := by kernel_rfl
 obtain ⟨cs, rfl, hsz⟩ := Go.WideShapes.okWide_struct Tryz.underlying33 hv
 obtain ⟨l⟩ := cs
 obtain ⟨fuel, hf⟩ := h
 obtain ⟨x0, x1, x2, x3, x4, x5, hs⟩ := tri_elem (ti := 3) (td := 29) Tryz.underlying33 ⟨rfl, rfl⟩ ⟨rfl, rfl⟩ ⟨rfl, rfl⟩ Tryz.underlying29 ⟨rfl, rfl⟩ ⟨rfl, rfl⟩ (by kernel_rfl) (by kernel_rfl) Tryz.underlying3 fuel l _ hf (hsz.trans hC)
 exact ⟨x0, x1, x2, x3, x4, x5, by rw [hs]⟩
end Go.Proofs.YtcbicpbbjbkiaaaGreatDoor
namespace Go.Proofs.YtcbicpbbjbkiaaaGreatDoor
set_option maxRecDepth 100000
open Go.ChangeShapes Go.WideShapes Go.ChangeAt Go.RowKit Go.Joins

def tab0 : Array Value := #[.int .u64 1, .int .u64 10, .int .u64 100, .int .u64 1000, .int .u64 10000, .int .u64 100000, .int .u64 1000000, .int .u64 10000000, .int .u64 100000000, .int .u64 1000000000, .int .u64 10000000000, .int .u64 100000000000, .int .u64 1000000000000, .int .u64 10000000000000, .int .u64 100000000000000, .int .u64 1000000000000000, .int .u64 10000000000000000, .int .u64 100000000000000000, .int .u64 1000000000000000000, .int .u64 10000000000000000000]
def tab1 : Array Value := #[.int .u8 0, .int .u8 1, .int .u8 28, .int .u8 2, .int .u8 29, .int .u8 14, .int .u8 24, .int .u8 3, .int .u8 30, .int .u8 22, .int .u8 20, .int .u8 15, .int .u8 25, .int .u8 17, .int .u8 4, .int .u8 8, .int .u8 31, .int .u8 27, .int .u8 13, .int .u8 23, .int .u8 21, .int .u8 19, .int .u8 16, .int .u8 7, .int .u8 26, .int .u8 12, .int .u8 18, .int .u8 6, .int .u8 11, .int .u8 5, .int .u8 10, .int .u8 9]
def tab2 : Array Value := #[.int .u8 0, .int .u8 1, .int .u8 56, .int .u8 2, .int .u8 57, .int .u8 49, .int .u8 28, .int .u8 3, .int .u8 61, .int .u8 58, .int .u8 42, .int .u8 50, .int .u8 38, .int .u8 29, .int .u8 17, .int .u8 4, .int .u8 62, .int .u8 47, .int .u8 59, .int .u8 36, .int .u8 45, .int .u8 43, .int .u8 51, .int .u8 22, .int .u8 53, .int .u8 39, .int .u8 33, .int .u8 30, .int .u8 24, .int .u8 18, .int .u8 12, .int .u8 5, .int .u8 63, .int .u8 55, .int .u8 48, .int .u8 27, .int .u8 60, .int .u8 41, .int .u8 37, .int .u8 16, .int .u8 46, .int .u8 35, .int .u8 44, .int .u8 21, .int .u8 52, .int .u8 32, .int .u8 23, .int .u8 11, .int .u8 54, .int .u8 26, .int .u8 40, .int .u8 15, .int .u8 34, .int .u8 20, .int .u8 31, .int .u8 10, .int .u8 25, .int .u8 14, .int .u8 19, .int .u8 9, .int .u8 13, .int .u8 8, .int .u8 7, .int .u8 6]
def layTab (h : Array Obj) (i : Nat) (cs : Array Value) : Array Obj := h.modify i fun
 | .cells _ t frozen => .cells cs t frozen
 | o => o
noncomputable def laidWorld (os : Os) : World :=
 let w0 := World.holding Tryz.prog os ⟨#[], #[], []⟩
 { w0 with heap := layTab (layTab (layTab w0.heap 1 tab0) 4 tab1) 5 tab2 }
theorem laidWorld_met (os : Os) (args : Array Value) : laidMet Tryz.prog Rows.topPrintedRow.laid ((laidWorld os).forCall (fun _ _ => 0) ⟨#[], args, []⟩).memory :=
 laidMet_of_run' 8 (by kernel_rfl) (by kernel_rfl)
theorem tpW_of {W : World} (h : laidMet Tryz.prog Rows.topPrintedRow.laid W) (hs : W.ShapedOpen Tryz.prog) : TpW W := by
 have h3 : laidMet Tryz.prog (("internal/strconv.uint64pow10", Lib.tabData .u64 Lib.pow10Tab) :: []) W := h.tail.tail
 refine ⟨Lib.tabIs_of_head (g := 1) (t := 346) (e := 292) (n := 20) (by kernel_rfl) (by kernel_rfl) Tryz.underlying346 Tryz.underlying292 (by kernel_rfl) (by kernel_rfl) h3, ?_⟩
 exact Go.Proofs.cell_of_shapedOpen_int (zero := #[.int .i64 0]) (t := 3) hs (of_decide_eq_true (by kernel_rfl)) (by kernel_rfl) rfl (by kernel_rfl) (by kernel_rfl) Tryz.underlying3
theorem lifted_TopPrinted (os : Os) (started : os.Started) (H : Type) (enc : TypeId × Value → H) :
  ReturnsInHanded {} Tryz.checked os 3 .any (fun w args => (Rows.topPrintedSpec.pre enc Tryz.prog Tryz.f3 [] false w args ∧ laidMet Tryz.prog Rows.topPrintedRow.laid w) ∧ sizedMet enc Tryz.prog Tryz.f3 (OpenSpec.ofChange Rows.topPrintedSpec) false w args)
   (Rows.topPrintedSpec.post enc Tryz.prog Tryz.f3 false true false false) := by
 refine returnsInHanded_of_calls (C := Tryz.checked) ownKnob_none started (by kernel_rfl)
  (ChangeSpec.witness_at (enc := enc) (C := Tryz.checked) (os := os) (X := fun w _ => laidMet Tryz.prog Rows.topPrintedRow.laid w) false (laidWorld os) #[.agg #[.int .i64 0, .slice none 0 0], .agg #[.string ⟨#[]⟩, .int .i64 0, .int .i64 0, .int .i64 0, .int .i64 0, .int .i64 0, .int .i64 0, .int .i64 0, .int .i64 0, .int .i64 0, .int .i64 0], .agg #[.int .i64 0, .int .i64 0, .int .i64 0, .int .i64 0, .int .i64 0, .int .i64 0, .int .i64 0, .int .i64 0], .agg #[.int .i64 0, .int .i64 0, .int .i64 0, .int .i64 0, .int .i64 0, .int .i64 0]] 8 rfl (by kernel_rfl) (by kernel_rfl) (by kernel_rfl) (by kernel_rfl) (by kernel_rfl) (laidWorld_met os _)) ?_
 intro w0 tape i _ hsh _ hok hpre _
 obtain ⟨_, _, _, fn', hfn', _, _, _, _, hval0⟩ := hok
 obtain rfl : Tryz.f3 = fn' := Option.some.inj (Tryz.func3.symm.trans hfn')
 obtain ⟨⟨⟨ds, gs, before, hw, -⟩, hx⟩, -⟩ := hpre
 have hW := DataW.Whole.of_heap (w' := w0.forCall tape i) (by rfl) hw
 have hT : TpW (w0.forCall tape i) := tpW_of (hx.of_heap (by rfl)) hsh
 generalize w0.forCall tape i = W at *
 obtain ⟨ip, args, iv⟩ := i
 dsimp only at hval0 hW ⊢
 have hval : ∀ (j : Nat) t v, Tryz.f3.params[j]? = some t → args[j]? = some v → Value.okWide Tryz.prog W .any w0.heap.size t v := hval0
 have hW' := hW
 obtain ⟨p, q, hA0, hV, rfl, hfz, hnd⟩ := hW
 have hA : DataW.TrodAll enc Tryz.prog W 0 (fun _ => true) true Tryz.f3.params.toList args.toList ds p := hA0
 rw [Tryz.params3] at hA hval
 obtain ⟨v0, vs0, d0, ds0, p0, q0, hargs, rfl, rfl, h0, r0⟩ := trodAll_cons hA
 obtain ⟨v1, vs1, d1, ds1, p1, q1, hargs1, rfl, rfl, h1, r1⟩ := trodAll_cons r0
 obtain ⟨v2, vs2, d2, ds2, p2, q2, hargs2, rfl, rfl, h2, r2⟩ := trodAll_cons r1
 obtain ⟨v3, vs3, d3, ds3, p3, q3, hargs3, rfl, rfl, h3, r3⟩ := trodAll_cons r2
 obtain ⟨rfl, rfl, rfl⟩ := trodAll_nil r3
 obtain rfl : args = #[v0, v1, v2, v3] := by cases args; simp_all
 obtain ⟨rfl, rfl⟩ := trodVars_none hV
 obtain ⟨ix, u, l, rfl, hl⟩ := ins_arg (hval 0 24 v0 rfl rfl) h0
 obtain ⟨s, y1, y2, y3, y4, y5, y6, y7, y8, y9, y10, rfl, hs⟩ := sgr_arg (hval 1 28 v1 rfl rfl) h1
 obtain ⟨g0, g1, g2, g3, g4, g5, g6, g7, rfl⟩ := geo_arg (hval 2 31 v2 rfl rfl) h2
 obtain ⟨x0, x1, x2, x3, x4, x5, rfl⟩ := tri_arg (hval 3 33 v3 rfl rfl) h3
 simp only [List.append_nil] at hW'
 refine (law_printed ix u l s y1 y2 y3 y4 y5 y6 y7 y8 y9 y10 g0 g1 g2 g3 g4 g5 g6 g7 x0 x1 x2 x3 x4 x5 W hT hl hs).mono fun e W' ⟨he, d, hw⟩ => ?_
 subst he; subst hw
 exact ChangeSpec.post_blind (law_post laid_out hW' rfl rfl rfl Tryz.underlying4 (by kernel_rfl) (bw_below W d))
end Go.Proofs.YtcbicpbbjbkiaaaGreatDoor
