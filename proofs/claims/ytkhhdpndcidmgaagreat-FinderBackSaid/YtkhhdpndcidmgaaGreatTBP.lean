/- Contracts and plain laws, several texts in one: PlA; Fa7; Nw2; Shs; Shs2; Trd; Tr2; Tr3; Rbd; Cln2; Cpy0; Cpy; Nwa; Nwb; Bnd; Opp; Nw3 -/
import Derived.Test.YtkhhdpndcidmgaaGreatProg
import Derived.WalkKit
import Derived.WalkSpells
import Derived.WalkLawsBesides
import Derived.Lib.Hide
import Derived.BigQuiet
import Derived.Deep.Slices
import Derived.Deep.Fields
import Derived.ChangeSame
import Derived.WideShapes
import Derived.ChangeShapes
import Derived.Lib.SmallJoins
import Derived.Sort.OwnSorted
import Derived.Lib.SlicesCompact
import Derived.Sort.Walk0
import Derived.Test.YtkhhdpndcidmgaaGreatTAE
import Derived.Test.YtkhhdpndcidmgaaGreatTAF
import Derived.Test.YtkhhdpndcidmgaaGreatTAH
import Derived.Test.YtkhhdpndcidmgaaGreatTAI
import Derived.Test.YtkhhdpndcidmgaaGreatTAZ
import Derived.Test.YtkhhdpndcidmgaaGreatTBA
import Derived.Test.YtkhhdpndcidmgaaGreatTBB
import Derived.Test.YtkhhdpndcidmgaaGreatTBD
import Derived.Test.YtkhhdpndcidmgaaGreatTBG
import Derived.Test.YtkhhdpndcidmgaaGreatTBO
/- Opening a place off an argument. -/
namespace Go.Proofs.YtkhhdpndcidmgaaGreat
open Go.RowKit

section
variable {H : Type} {enc : TypeId × Value → H} {P : Program}
open Go.ChangeShapes Go.WideShapes Go.Deep in
theorem pl_elem {w : World} {t ti td : TypeId} {f0 f1 g0 g1 : Field} (hs : P.underlying t = some (.struct #[f0, f1]))
    (h0 : f0.type = td ∧ f0.offset = 0) (h1 : f1.type = td ∧ f1.offset = 2)
    (hd : P.underlying td = some (.struct #[g0, g1])) (hg0 : g0.type = ti ∧ g0.offset = 0) (hg1 : g1.type = ti ∧ g1.offset = 1)
    (cI : P.cellsOf ti = 1) (cD : P.cellsOf td = 2) (hI : P.underlying ti = some (.int .i64))
    (n : Nat) (cs : List Value) (y : DataW H × List MemPlace) (hf : DataW.trod enc P w 0 (fun _ => true) true n t cs = some y) (hl : cs.length = 4) :
    ∃ a b c d : Int, cs = [.int .i64 a, .int .i64 b, .int .i64 c, .int .i64 d] ∧ (Lit.int .i64 a).wf = true ∧ (Lit.int .i64 b).wf = true ∧ (Lit.int .i64 c).wf = true ∧ (Lit.int .i64 d).wf = true := by
  match cs, hl with
  | [c0, c1, c2, c3], _ =>
    obtain ⟨y0, y1, m, hx, _, e0, e1⟩ := trod_struct2 hs hf
    rw [h0.1, h0.2, cD] at e0
    rw [h1.1, h1.2, cD] at e1
    simp only [List.drop_zero, List.drop_succ_cons, List.take_succ_cons, List.take_zero] at e0 e1
    obtain ⟨z0, z1, m2, hx2, _, k0, k1⟩ := trod_struct2 hd e0
    obtain ⟨z2, z3, m3, hx3, _, k2, k3⟩ := trod_struct2 hd e1
    rw [hg0.1, hg0.2, cI] at k0 k2
    rw [hg1.1, hg1.2, cI] at k1 k3
    simp only [List.drop_zero, List.drop_succ_cons, List.take_succ_cons, List.take_zero] at k0 k1 k2 k3
    obtain ⟨x0, q0, _, w0⟩ := DataW.trod_int hI k0
    obtain ⟨x1, q1, _, w1⟩ := DataW.trod_int hI k1
    obtain ⟨x2, q2, _, w2⟩ := DataW.trod_int hI k2
    obtain ⟨x3, q3, _, w3⟩ := DataW.trod_int hI k3
    simp only [List.cons.injEq, and_true] at q0 q1 q2 q3
    subst q0 q1 q2 q3
    exact ⟨x0, x1, x2, x3, rfl, w0, w1, w2, w3⟩
end
set_option maxRecDepth 100000 in
theorem pl_arg {H : Type} {enc : TypeId × Value → H} {w : World} {r : Reach} {b0 : Nat} {v : Value} {d : DataW H} {ps : List MemPlace} (hv : Value.okWide Tryz.prog w r b0 45 v) (h : DataW.Trod enc Tryz.prog w 0 (fun _ => true) true 45 v d ps) :
    ∃ a b c d : Int, v = (.agg #[.int .i64 (a), .int .i64 (b), .int .i64 (c), .int .i64 (d)]) ∧ (Lit.int .i64 a).wf = true ∧ (Lit.int .i64 b).wf = true ∧ (Lit.int .i64 c).wf = true ∧ (Lit.int .i64 d).wf = true := by
  have hC : Tryz.prog.cellsOf 45 = 4 := by kernel_rfl
  obtain ⟨cs, rfl, hsz⟩ := Go.WideShapes.okWide_struct Tryz.underlying45 hv
  obtain ⟨l⟩ := cs
  obtain ⟨fuel, hf⟩ := h
  obtain ⟨x0, x1, x2, x3, hs, hw⟩ := pl_elem (ti := 3) (td := 23) Tryz.underlying45 ⟨rfl, rfl⟩ ⟨rfl, rfl⟩ Tryz.underlying23 ⟨rfl, rfl⟩ ⟨rfl, rfl⟩ (by kernel_rfl) (by kernel_rfl) Tryz.underlying3 fuel l _ hf (hsz.trans hC)
  exact ⟨x0, x1, x2, x3, by rw [hs], hw⟩
end Go.Proofs.YtkhhdpndcidmgaaGreat
/- arctrig: a box's corners in an array. -/
namespace Go.Proofs.YtkhhdpndcidmgaaGreat
set_option maxRecDepth 100000
open Go.RowKit

theorem ixB_0 (x0 x1 y0 y1 : Int) (W : World) : (Instr.index 117 (.agg #[.int .i64 x0, .int .i64 y0, .int .i64 x0, .int .i64 y1, .int .i64 x1, .int .i64 y0, .int .i64 x1, .int .i64 y1]) (.int .i64 0)).run Tryz.prog W = .ok (.agg #[.int .i64 x0, .int .i64 y0]) W := by kernel_rfl
theorem ixB_1 (x0 x1 y0 y1 : Int) (W : World) : (Instr.index 117 (.agg #[.int .i64 x0, .int .i64 y0, .int .i64 x0, .int .i64 y1, .int .i64 x1, .int .i64 y0, .int .i64 x1, .int .i64 y1]) (.int .i64 1)).run Tryz.prog W = .ok (.agg #[.int .i64 x0, .int .i64 y1]) W := by kernel_rfl
theorem ixB_2 (x0 x1 y0 y1 : Int) (W : World) : (Instr.index 117 (.agg #[.int .i64 x0, .int .i64 y0, .int .i64 x0, .int .i64 y1, .int .i64 x1, .int .i64 y0, .int .i64 x1, .int .i64 y1]) (.int .i64 2)).run Tryz.prog W = .ok (.agg #[.int .i64 x1, .int .i64 y0]) W := by kernel_rfl
theorem ixB_3 (x0 x1 y0 y1 : Int) (W : World) : (Instr.index 117 (.agg #[.int .i64 x0, .int .i64 y0, .int .i64 x0, .int .i64 y1, .int .i64 x1, .int .i64 y0, .int .i64 x1, .int .i64 y1]) (.int .i64 3)).run Tryz.prog W = .ok (.agg #[.int .i64 x1, .int .i64 y1]) W := by kernel_rfl
end Go.Proofs.YtkhhdpndcidmgaaGreat
/- Without pages: the reference's New, the law's made, large. -/
namespace Go.Proofs.YtkhhdpndcidmgaaGreat
open Go.RowKit Go.Shelf

end Go.Proofs.YtkhhdpndcidmgaaGreat
/- The library's slice functions at strings. -/
namespace Go.Proofs.YtkhhdpndcidmgaaGreat
open Go.RowKit Go.Sort

end Go.Proofs.YtkhhdpndcidmgaaGreat
/- slices.Sort and Compact at strings; sorted lists of strings. -/
namespace Go.Proofs.YtkhhdpndcidmgaaGreat
open Go.RowKit Go.Sort

end Go.Proofs.YtkhhdpndcidmgaaGreat
/- (*almanac.Book).tracked: the names of the tracks, ascending, each once. -/
namespace Go.Proofs.YtkhhdpndcidmgaaGreat
open Go.RowKit Go.Sort

end Go.Proofs.YtkhhdpndcidmgaaGreat
/- The reference's names of tracks: has; insertion in order (plain law). -/
namespace Go.Proofs.YtkhhdpndcidmgaaGreat
open Go.RowKit Go.Sort

end Go.Proofs.YtkhhdpndcidmgaaGreat
/- The reference's names of tracks. -/
namespace Go.Proofs.YtkhhdpndcidmgaaGreat
open Go.RowKit Go.Sort

end Go.Proofs.YtkhhdpndcidmgaaGreat
/- The reference's bodies. -/
namespace Go.Proofs.YtkhhdpndcidmgaaGreat
open Go.RowKit Go.Sort

end Go.Proofs.YtkhhdpndcidmgaaGreat
/- slices.Clone at tracks, pages, ints. -/
namespace Go.Proofs.YtkhhdpndcidmgaaGreat
open Go.RowKit

end Go.Proofs.YtkhhdpndcidmgaaGreat
/- Deep copies of pages: what holds while the copy is made. No function of the program. -/
namespace Go.Proofs.YtkhhdpndcidmgaaGreat
open Go.RowKit

end Go.Proofs.YtkhhdpndcidmgaaGreat
/- almanac.copied: a deep copy of pages. -/
namespace Go.Proofs.YtkhhdpndcidmgaaGreat
open Go.RowKit

end Go.Proofs.YtkhhdpndcidmgaaGreat
/- almanac.New in full: the ways out ahead of the loop. -/
namespace Go.Proofs.YtkhhdpndcidmgaaGreat
open Go.RowKit Go.Shelf

end Go.Proofs.YtkhhdpndcidmgaaGreat
/- almanac.New in full: the book while its days are put in. -/
namespace Go.Proofs.YtkhhdpndcidmgaaGreat
open Go.RowKit Go.Shelf

end Go.Proofs.YtkhhdpndcidmgaaGreat
/- The blocks that a reading met lie in the world. -/
namespace Go.Proofs.YtkhhdpndcidmgaaGreat
open Go.RowKit

end Go.Proofs.YtkhhdpndcidmgaaGreat
/- Opening pages off an argument: tracks, pages, rows of both, each with what lies in memory. -/
namespace Go.Proofs.YtkhhdpndcidmgaaGreat
open Go.RowKit

section
variable {H : Type} {enc : TypeId × Value → H} {P : Program}
end
end Go.Proofs.YtkhhdpndcidmgaaGreat
/- The example of chapter 17 (awake); right. -/
namespace Go.Proofs.YtkhhdpndcidmgaaGreat
open Go.RowKit Go.Shelf

theorem tracked_nil_post (bk : Nat) (vd vs : Value) (w : World) (hB : Bk w bk vd (.slice none 0 0) vs) :
    Calls Tryz.prog 55 #[.pointer (some ⟨bk, 0, none⟩)] w (StrPost w []) :=
  (alm_tracked_nil bk vd vs w hB).mono fun _ _ ⟨h1, d, h2⟩ => ⟨none, 0, d, h1, h2, fun _ => rfl, SlG.nil _ _⟩
def vegaS : ByteArray := ⟨#[86, 101, 103, 97]⟩
def vegaV : StarV := ⟨vegaS, 48000, 0, 0⟩
theorem vega_name : nameB vegaS = true := by
  refine nameB_iff.2 ⟨by decide, by decide, fun i hi => ?_, by decide⟩
  have h4 : i < 4 := hi
  match i, h4 with
  | 0, _ => decide
  | 1, _ => decide
  | 2, _ => decide
  | 3, _ => decide
theorem vega_cat : catB [vegaV] = true := by
  refine catB_iff.2 ⟨by decide, fun i x hx => ?_⟩
  cases i with
  | zero =>
    simp only [List.getElem?_cons_zero, Option.some.injEq] at hx
    subst hx
    refine ⟨vega_name, by decide, ?_⟩
    show (if (vegaS.toList == vegaS.toList) then ((0 : Nat) : Int) else _) = _
    rw [if_pos (beq_self_eq_true _)]
  | succ i => simp at hx
theorem vega_find : fndS [vegaV] vegaS = ((0 : Nat) : Int) := by
  show (if (vegaS.toList == vegaS.toList) then ((0 : Nat) : Int) else _) = _
  rw [if_pos (beq_self_eq_true _)]
theorem vega_list : vegaS.toList = [86, 101, 103, 97] := by rw [ByteArray.toList_eq]; rfl
theorem vega_notA : [vegaV].any (fun x => isA x.s) = false := by
  show (isA vegaS || false) = false
  unfold isA
  rw [vega_list]
  rfl
theorem eg_sg : sgL 0 0 48000 = 10798017 ∧ sgH 0 0 48000 = 10798118 := by decide +kernel
theorem vega_lit (w : World) (L : List (Obj ⊕ Ext)) : SlG stR (lay w (.inl (.cells #[.string vegaS, .int .i64 48000, .int .i64 0, .int .i64 0] 42 (0, 0)) :: L)) (.slice (some ⟨posn w (shp L), 0, none⟩) 1 1) [vegaV] :=
  (owG_lit stOk [vegaV] rfl (by decide) (by intro x hx; rw [List.mem_singleton.1 hx]; exact ⟨by decide, by decide, by decide, by decide⟩)).sl stOk
end Go.Proofs.YtkhhdpndcidmgaaGreat
