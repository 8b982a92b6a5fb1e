/- Contracts and plain laws, several texts in one: OpG; Opn; TrA; Fa7; Nw1; Nw2; Shs; Shs2; Trd; Tr2; Tr3; Rbd; Cln2; Cpy0; Cpy; Nwa; Nwb; Bnd; Nwc; Nwd; Opp; Rf2; Rf3; Rf6; Rf7; Sgn; Wh0; Wh1; Rf5; Rf8; Rf9; Rf10; Wh2; Wh3; Wh4; Alm5; Wh5; Sub -/
import Derived.Test.YtnnmfdeeicpdlaaGreatProg
import Derived.WalkKit
import Derived.WalkSpells
import Derived.WalkLawsBesides
import Derived.Lib.Hide
import Derived.BigQuiet
import Derived.Deep.Slices
import Derived.Deep.Fields
import Derived.ChangeSame
import Derived.WideShapes
import Derived.ChangeShapes
import Derived.Lib.SmallJoins
import Derived.Sort.OwnSorted
import Derived.Lib.SlicesCompact
import Derived.Sort.Walk0
import Derived.RangeFuncNested
import Derived.RangeFuncBound
import Derived.RangeFuncCalls
import Derived.RangeFuncLeaves
import Derived.Shelf.Abstract
import Derived.Shelf.RegionOpen
import Derived.OwnWalkIn
import Derived.TacticsInMore
import Derived.LoopNIn
import Derived.LoopIn
import Derived.Deep.RegionWith
import Derived.Test.YtnnmfdeeicpdlaaGreatHAA
import Derived.Test.YtnnmfdeeicpdlaaGreatHAC
import Derived.Test.YtnnmfdeeicpdlaaGreatHAD
import Derived.Test.YtnnmfdeeicpdlaaGreatHAE
import Derived.Test.YtnnmfdeeicpdlaaGreatHAR
import Derived.Test.YtnnmfdeeicpdlaaGreatHAS
import Derived.Test.YtnnmfdeeicpdlaaGreatHAX
import Derived.Test.YtnnmfdeeicpdlaaGreatHAZ
import Derived.Test.YtnnmfdeeicpdlaaGreatHBC
import Derived.Test.YtnnmfdeeicpdlaaGreatHBH
import Derived.Test.YtnnmfdeeicpdlaaGreatHBK
/- A slice of records off an argument: whatever the record is. -/
namespace Go.Proofs.YtnnmfdeeicpdlaaGreat
open Go.RowKit

section
variable {H : Type} {enc : TypeId × Value → H} {α : Type} {R : RecT α} {P : Program}
end
end Go.Proofs.YtnnmfdeeicpdlaaGreat
/- Opening rows of records off an argument: a slice reads as a list of records, each with what its cells say. -/
namespace Go.Proofs.YtnnmfdeeicpdlaaGreat
open Go.RowKit

section
variable {H : Type} {enc : TypeId × Value → H} {P : Program}

end
end Go.Proofs.YtnnmfdeeicpdlaaGreat
/- Opening a triangle off an argument. -/
namespace Go.Proofs.YtnnmfdeeicpdlaaGreat
open Go.RowKit

section
variable {H : Type} {enc : TypeId × Value → H} {P : Program}
open Go.ChangeShapes Go.WideShapes Go.Deep in
theorem tri_elem {w : World} {t ti td : TypeId} {f0 f1 f2 g0 g1 : Field} (hs : P.underlying t = some (.struct #[f0, f1, f2]))
    (h0 : f0.type = td ∧ f0.offset = 0) (h1 : f1.type = td ∧ f1.offset = 2) (h2 : f2.type = td ∧ f2.offset = 4)
    (hd : P.underlying td = some (.struct #[g0, g1])) (hg0 : g0.type = ti ∧ g0.offset = 0) (hg1 : g1.type = ti ∧ g1.offset = 1)
    (cI : P.cellsOf ti = 1) (cD : P.cellsOf td = 2) (hI : P.underlying ti = some (.int .i64))
    (n : Nat) (cs : List Value) (y : DataW H × List MemPlace) (hf : DataW.trod enc P w 0 (fun _ => true) true n t cs = some y) (hl : cs.length = 6) :
    ∃ a b c d e f : Int, cs = [.int .i64 a, .int .i64 b, .int .i64 c, .int .i64 d, .int .i64 e, .int .i64 f] := by
  match cs, hl with
  | [c0, c1, c2, c3, c4, c5], _ =>
    obtain ⟨y0, y1, y2, m, hx, _, e0, e1, e2⟩ := trod_struct3 hs hf
    rw [h0.1, h0.2, cD] at e0
    rw [h1.1, h1.2, cD] at e1
    rw [h2.1, h2.2, cD] at e2
    simp only [List.drop_zero, List.drop_succ_cons, List.take_succ_cons, List.take_zero] at e0 e1 e2
    obtain ⟨z0, z1, m2, hx2, _, k0, k1⟩ := trod_struct2 hd e0
    obtain ⟨z2, z3, m3, hx3, _, k2, k3⟩ := trod_struct2 hd e1
    obtain ⟨z4, z5, m4, hx4, _, k4, k5⟩ := trod_struct2 hd e2
    rw [hg0.1, hg0.2, cI] at k0 k2 k4
    rw [hg1.1, hg1.2, cI] at k1 k3 k5
    simp only [List.drop_zero, List.drop_succ_cons, List.take_succ_cons, List.take_zero] at k0 k1 k2 k3 k4 k5
    obtain ⟨x0, q0, _, w0⟩ := DataW.trod_int hI k0
    obtain ⟨x1, q1, _, w1⟩ := DataW.trod_int hI k1
    obtain ⟨x2, q2, _, w2⟩ := DataW.trod_int hI k2
    obtain ⟨x3, q3, _, w3⟩ := DataW.trod_int hI k3
    obtain ⟨x4, q4, _, w4⟩ := DataW.trod_int hI k4
    obtain ⟨x5, q5, _, w5⟩ := DataW.trod_int hI k5
    simp only [List.cons.injEq, and_true] at q0 q1 q2 q3 q4 q5
    subst q0 q1 q2 q3 q4 q5
    exact ⟨x0, x1, x2, x3, x4, x5, rfl⟩
end
set_option maxRecDepth 100000 in
theorem tri_arg {H : Type} {enc : TypeId × Value → H} {w : World} {r : Reach} {b0 : Nat} {v : Value} {d : DataW H} {ps : List MemPlace} (hv : Value.okWide Tryz.prog w r b0 45 v) (h : DataW.Trod enc Tryz.prog w 0 (fun _ => true) true 45 v d ps) :
    ∃ a b c d e f : Int, v = (.agg #[.int .i64 (a), .int .i64 (b), .int .i64 (c), .int .i64 (d), .int .i64 (e), .int .i64 (f)]) := by
  have hC : Tryz.prog.cellsOf 45 = 6 := by kernel_rfl
  obtain ⟨cs, rfl, hsz⟩ := Go.WideShapes.okWide_struct Tryz.underlying45 hv
  obtain ⟨l⟩ := cs
  obtain ⟨fuel, hf⟩ := h
  obtain ⟨x0, x1, x2, x3, x4, x5, hs⟩ := tri_elem (ti := 3) (td := 23) Tryz.underlying45 ⟨rfl, rfl⟩ ⟨rfl, rfl⟩ ⟨rfl, rfl⟩ Tryz.underlying23 ⟨rfl, rfl⟩ ⟨rfl, rfl⟩ (by kernel_rfl) (by kernel_rfl) Tryz.underlying3 fuel l _ hf (hsz.trans hC)
  exact ⟨x0, x1, x2, x3, x4, x5, by rw [hs]⟩
end Go.Proofs.YtnnmfdeeicpdlaaGreat
/- arctrig: a box's corners in an array. -/
namespace Go.Proofs.YtnnmfdeeicpdlaaGreat
set_option maxRecDepth 100000
open Go.RowKit

theorem ixB_0 (x0 x1 y0 y1 : Int) (W : World) : (Instr.index 165 (.agg #[.int .i64 x0, .int .i64 y0, .int .i64 x0, .int .i64 y1, .int .i64 x1, .int .i64 y0, .int .i64 x1, .int .i64 y1]) (.int .i64 0)).run Tryz.prog W = .ok (.agg #[.int .i64 x0, .int .i64 y0]) W := by kernel_rfl
theorem ixB_1 (x0 x1 y0 y1 : Int) (W : World) : (Instr.index 165 (.agg #[.int .i64 x0, .int .i64 y0, .int .i64 x0, .int .i64 y1, .int .i64 x1, .int .i64 y0, .int .i64 x1, .int .i64 y1]) (.int .i64 1)).run Tryz.prog W = .ok (.agg #[.int .i64 x0, .int .i64 y1]) W := by kernel_rfl
theorem ixB_2 (x0 x1 y0 y1 : Int) (W : World) : (Instr.index 165 (.agg #[.int .i64 x0, .int .i64 y0, .int .i64 x0, .int .i64 y1, .int .i64 x1, .int .i64 y0, .int .i64 x1, .int .i64 y1]) (.int .i64 2)).run Tryz.prog W = .ok (.agg #[.int .i64 x1, .int .i64 y0]) W := by kernel_rfl
theorem ixB_3 (x0 x1 y0 y1 : Int) (W : World) : (Instr.index 165 (.agg #[.int .i64 x0, .int .i64 y0, .int .i64 x0, .int .i64 y1, .int .i64 x1, .int .i64 y0, .int .i64 x1, .int .i64 y1]) (.int .i64 3)).run Tryz.prog W = .ok (.agg #[.int .i64 x1, .int .i64 y1]) W := by kernel_rfl
end Go.Proofs.YtnnmfdeeicpdlaaGreat
/- almanac.New without pages. -/
namespace Go.Proofs.YtnnmfdeeicpdlaaGreat
open Go.RowKit Go.Shelf

def NewPost0 (w : World) (l : List StarV) (e : Ending) (w' : World) : Prop :=
  ∃ bk vs d, e = .returned (.tuple #[.pointer (some ⟨bk, 0, none⟩), .int .i64 0]) ∧ w' = bw w d ∧ Bk (bw w d) bk (.slice none 0 0) (.slice none 0 0) vs ∧ SlG stR (bw w d) vs l
theorem bk_new0 (w : World) (L : List (Obj ⊕ Ext)) (t : TypeId) (vd vp vs : Value) : Bk (lay w (.inl (.cells #[vd, vp, vs] t (0, 0)) :: L)) (posn w (shp L)) vd vp vs := by
  have h := lay_get w (.inl (.cells #[vd, vp, vs] t (0, 0)) :: L) 0 _ rfl
  refine ⟨(Array.getElem?_eq_some_iff.1 h).1, ?_, ?_, ?_⟩ <;> (unfold World.cell?; rw [show posn w (shp L) = posn w ((shp (.inl (.cells #[vd, vp, vs] t (0, 0)) :: L)).drop (0 + 1)) from rfl, h]; rfl)
theorem bk_new (w : World) (A L : List (Obj ⊕ Ext)) (t : TypeId) (vd vp vs : Value) : Bk (lay w (A ++ .inl (.cells #[vd, vp, vs] t (0, 0)) :: L)) (posn w (shp L)) vd vp vs := by
  rw [lay_appG]
  exact (bk_new0 w L t vd vp vs).lay A
set_option maxHeartbeats 1000000 in
set_option maxRecDepth 100000 in
theorem alm_New_nil3 (v : Value) (l : List StarV) (w : World) (hv : SlG stR w v l) (h : catB l = true) (hA : l.any (fun x => isA x.s) = false) :
    Calls Tryz.prog 12 #[.slice none 0 0, v] w (NewPost0 w l) := by
  have hlen := (catB_iff.1 h).len
  have HC := Lib.hid (fun L => cat_Valid v l (lay w L) (hv.lay L))
  rw [h] at HC
  have HCl := Lib.hid (fun L => cln_Star v l (lay w L) (hv.lay L) (by omega))
  have eI : ∀ args w, (callFunc 73 args).run Tryz.prog w = .ok (.enter 73 args) w := enters_of Tryz.func73 (by kernel_rfl) rfl
  have HI := Lib.hid (fun L b' (hb : b' < (lay w L).heap.size) (hc : ∀ d, (lay w (.inr d :: L)).cell? ⟨b', 0, none⟩ = some (.slice none 0 0)) => st_ContainsFunc 73 [.pointer (some ⟨b', 0, none⟩)] (fun x => isA x.s) v l (lay w L) (hv.lay L) eI (fun x _ d =>
    alm_New2_nil x b' (lay w (.inr d :: L)) (Nat.lt_of_lt_of_le hb (bw_le _ d)) (hc d) |>.mono fun e w' ⟨h1, d2, h2⟩ => ⟨h1, _, h2.trans (bw_bw _ _ _)⟩))
  rw [hA] at HI
  clear h hv hA hlen eI
  unfold NewPost0
  refine lay_start ?_
  go_enter Tryz.func12, Tryz.ntmps12
  go_wp2_with (first | (go_at_call 63; refine (pgs_ContainsFunc_nil _ _ _ _).mono ?_; rintro e w' ⟨rfl, d1, rfl⟩) | (go_at_call 66; refine (HC.out _).mono ?_; rintro e w' ⟨rfl, d2, rfl⟩) | (go_at_call 67; refine (alm_copied_nil _).mono ?_; rintro e w' ⟨rfl, d3, rfl⟩))
  refine (HCl.out _).mono ?_
  rintro e w' ⟨v', d4, rfl, rfl, h4⟩
  have H4 := Lib.hid (h4.sl stOk)
  obtain ⟨va, vc, rfl⟩ := h4.form
  clear h4
  rw [lay_bw] at H4 ⊢
  go_wp2_with fail
  refine wp_loop_rounds 1 ?_
  rw [rounds_succ]
  go_wp2_with fail
  refine (alm_tracked_nil _ _ _ _ (bk_new0 w [.inr d4, .inr d3, .inr d2, .inr d1] _ _ _ _)).mono ?_
  rintro e w' ⟨rfl, d5, rfl⟩
  rw [lay_bw]
  go_wp2_with (first | (go_at_call 71; refine (Tryz.slices_Contains_string_empty _ _ _ _).mono ?_; rintro e w' ⟨rfl, rfl⟩))
  refine (HI.out _ _ (by simp only [lay_size, shp, posn, List.sum_cons, List.sum_nil]; omega) (fun d => by simp [go_sem])).mono ?_
  rintro e w' ⟨rfl, d6, rfl⟩
  rw [lay_bw]
  go_wp2_with fail
  obtain ⟨z, hz⟩ := lay_ex w [.inr d6, .inl (.cells #[.slice none 0 0] 116 (0, 0)), .inr d5, .inl (.cells #[.slice none 0 0, .slice none 0 0, .slice va l.length vc] 114 (0, 0)), .inr d4, .inr d3, .inr d2, .inr d1]
  exact bodyPost_ret (v := .tuple #[.pointer (some ⟨posn w (shp [.inr d4, .inr d3, .inr d2, .inr d1]), 0, none⟩), .int .i64 0]) (by simp [results, Tryz.results12, go_sem]) rfl
    ⟨_, _, z, rfl, hz, hz ▸ bk_new w [_, _, _] _ _ _ _ _, hz ▸ slG_on (A := [_, _, _, _]) H4.out⟩
end Go.Proofs.YtnnmfdeeicpdlaaGreat
/- Without pages: the reference's New, the law's made, large. -/
namespace Go.Proofs.YtnnmfdeeicpdlaaGreat
open Go.RowKit Go.Shelf

end Go.Proofs.YtnnmfdeeicpdlaaGreat
/- The library's slice functions at strings. -/
namespace Go.Proofs.YtnnmfdeeicpdlaaGreat
open Go.RowKit Go.Sort

end Go.Proofs.YtnnmfdeeicpdlaaGreat
/- slices.Sort and Compact at strings; sorted lists of strings. -/
namespace Go.Proofs.YtnnmfdeeicpdlaaGreat
open Go.RowKit Go.Sort

end Go.Proofs.YtnnmfdeeicpdlaaGreat
/- (*almanac.Book).tracked: the names of the tracks, ascending, each once. -/
namespace Go.Proofs.YtnnmfdeeicpdlaaGreat
open Go.RowKit Go.Sort

end Go.Proofs.YtnnmfdeeicpdlaaGreat
/- The reference's names of tracks: has; insertion in order (plain law). -/
namespace Go.Proofs.YtnnmfdeeicpdlaaGreat
open Go.RowKit Go.Sort

end Go.Proofs.YtnnmfdeeicpdlaaGreat
/- The reference's names of tracks. -/
namespace Go.Proofs.YtnnmfdeeicpdlaaGreat
open Go.RowKit Go.Sort

end Go.Proofs.YtnnmfdeeicpdlaaGreat
/- The reference's bodies. -/
namespace Go.Proofs.YtnnmfdeeicpdlaaGreat
open Go.RowKit Go.Sort

end Go.Proofs.YtnnmfdeeicpdlaaGreat
/- slices.Clone at tracks, pages, ints. -/
namespace Go.Proofs.YtnnmfdeeicpdlaaGreat
open Go.RowKit

end Go.Proofs.YtnnmfdeeicpdlaaGreat
/- Deep copies of pages: what holds while the copy is made. No function of the program. -/
namespace Go.Proofs.YtnnmfdeeicpdlaaGreat
open Go.RowKit

end Go.Proofs.YtnnmfdeeicpdlaaGreat
/- almanac.copied: a deep copy of pages. -/
namespace Go.Proofs.YtnnmfdeeicpdlaaGreat
open Go.RowKit

end Go.Proofs.YtnnmfdeeicpdlaaGreat
/- almanac.New in full: the ways out ahead of the loop. -/
namespace Go.Proofs.YtnnmfdeeicpdlaaGreat
open Go.RowKit Go.Shelf

end Go.Proofs.YtnnmfdeeicpdlaaGreat
/- almanac.New in full: the book while its days are put in. -/
namespace Go.Proofs.YtnnmfdeeicpdlaaGreat
open Go.RowKit Go.Shelf

end Go.Proofs.YtnnmfdeeicpdlaaGreat
/- The blocks that a reading met lie in the world. -/
namespace Go.Proofs.YtnnmfdeeicpdlaaGreat
open Go.RowKit

end Go.Proofs.YtnnmfdeeicpdlaaGreat
/- almanac.New in full. -/
namespace Go.Proofs.YtnnmfdeeicpdlaaGreat
open Go.RowKit Go.Shelf

end Go.Proofs.YtnnmfdeeicpdlaaGreat
/- The reference's New in full. -/
namespace Go.Proofs.YtnnmfdeeicpdlaaGreat
open Go.RowKit Go.Shelf

end Go.Proofs.YtnnmfdeeicpdlaaGreat
/- Opening pages off an argument: tracks, pages, rows of both, each with what lies in memory. -/
namespace Go.Proofs.YtnnmfdeeicpdlaaGreat
open Go.RowKit

section
variable {H : Type} {enc : TypeId × Value → H} {P : Program}
end
end Go.Proofs.YtnnmfdeeicpdlaaGreat
/- increments.pieces: the iterator's contract. -/
namespace Go.Proofs.YtnnmfdeeicpdlaaGreat
open Go.RowKit Go.Shelf
attribute [local go_sem] Oper.semAt_some

end Go.Proofs.YtnnmfdeeicpdlaaGreat
/- increments.over: the iterator made, the loop over it. -/
namespace Go.Proofs.YtnnmfdeeicpdlaaGreat
open Go.RowKit Go.Shelf
attribute [local go_sem] Oper.semAt_some

@[local go_sem] theorem run_store_func {P : Program} {w : World} {a : Addr} {m : Mode} (f : Fn) (x y : Array Value) : (store a (.func f x y) m).run P w = stored P w a (.func f x y) m := run_store P w a _ m rfl
end Go.Proofs.YtnnmfdeeicpdlaaGreat
/- increments.gha, dec: the arcs of hours, the values over a span. -/
namespace Go.Proofs.YtnnmfdeeicpdlaaGreat
open Go.RowKit

end Go.Proofs.YtnnmfdeeicpdlaaGreat
/- increments.instant, Gha, Dec, During. -/
namespace Go.Proofs.YtnnmfdeeicpdlaaGreat
open Go.RowKit

end Go.Proofs.YtnnmfdeeicpdlaaGreat
/- angle.Signed. -/
namespace Go.Proofs.YtnnmfdeeicpdlaaGreat
open Go.RowKit

end Go.Proofs.YtnnmfdeeicpdlaaGreat
/- Where a body is: the plain law (values). -/
namespace Go.Proofs.YtnnmfdeeicpdlaaGreat
open Go.RowKit Go.Shelf

structure GeoV where
  a : Int
  b : Int
  c : Int
  d : Int
  e : Int
  f : Int
  g : Int
  h : Int
def g0 : GeoV := ⟨0, 0, 0, 0, 0, 0, 0, 0⟩
variable {lp : List PgV} {ls : List StarV} {s : ByteArray} {a b : Int}
end Go.Proofs.YtnnmfdeeicpdlaaGreat
/- Days, the page of a day, the track of a body on a day: the program's and the reference's. -/
namespace Go.Proofs.YtnnmfdeeicpdlaaGreat
open Go.RowKit Go.Shelf

end Go.Proofs.YtnnmfdeeicpdlaaGreat
/- The reference's lists: Unwrapped, Declinations. -/
namespace Go.Proofs.YtnnmfdeeicpdlaaGreat
open Go.RowKit

end Go.Proofs.YtnnmfdeeicpdlaaGreat
/- The reference of layer 14: the arc at an instant. -/
namespace Go.Proofs.YtnnmfdeeicpdlaaGreat
open Go.RowKit

end Go.Proofs.YtnnmfdeeicpdlaaGreat
/- The reference of layer 14: Over. -/
namespace Go.Proofs.YtnnmfdeeicpdlaaGreat
open Go.RowKit

end Go.Proofs.YtnnmfdeeicpdlaaGreat
/- The reference of layer 14: Margin, Gha, Dec. -/
namespace Go.Proofs.YtnnmfdeeicpdlaaGreat
open Go.RowKit

end Go.Proofs.YtnnmfdeeicpdlaaGreat
/- Hulls, sizes, joins; where the body of a track is on a day: the program's and the reference's. -/
namespace Go.Proofs.YtnnmfdeeicpdlaaGreat
open Go.RowKit Go.Shelf

end Go.Proofs.YtnnmfdeeicpdlaaGreat
/- Where the body of a track is on a day: (*almanac.Book).during, body; the reference's track. -/
namespace Go.Proofs.YtnnmfdeeicpdlaaGreat
open Go.RowKit Go.Shelf

end Go.Proofs.YtnnmfdeeicpdlaaGreat
/- (*almanac.Book).during where there is a track; body. -/
namespace Go.Proofs.YtnnmfdeeicpdlaaGreat
open Go.RowKit Go.Shelf

end Go.Proofs.YtnnmfdeeicpdlaaGreat
/- (*almanac.Book).Where at Aries, and Aries. -/
namespace Go.Proofs.YtnnmfdeeicpdlaaGreat
open Go.RowKit

end Go.Proofs.YtnnmfdeeicpdlaaGreat
/- (*almanac.Book).Where in full. -/
namespace Go.Proofs.YtnnmfdeeicpdlaaGreat
open Go.RowKit Go.Shelf

end Go.Proofs.YtnnmfdeeicpdlaaGreat
/- The value over a part of a span lies within the value over the span. No program in sight. -/
namespace Go.Proofs.YtnnmfdeeicpdlaaGreat
open Go.RowKit

end Go.Proofs.YtnnmfdeeicpdlaaGreat
