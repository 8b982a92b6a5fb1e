/- Contracts and plain laws, several texts in one: SgA; SgS; Srt; Ris; AvR; Av5 -/
import Derived.Test.YtmomoeagnkjbiaaGreatProg
import Derived.WalkKit
import Derived.WalkSpells
import Derived.WalkLawsBesides
import Derived.Lib.Hide
import Derived.BigQuiet
import Derived.Deep.Slices
import Derived.Deep.Fields
import Derived.ChangeSame
import Derived.WideShapes
import Derived.ChangeShapes
import Derived.Lib.SmallJoins
import Derived.Sort.OwnSortedInts
import Derived.Shelf.GgSortFunc.InsertionK
import Derived.Test.YtmomoeagnkjbiaaGreatCAA
import Derived.Test.YtmomoeagnkjbiaaGreatCAB
import Derived.Test.YtmomoeagnkjbiaaGreatCAC
import Derived.Test.YtmomoeagnkjbiaaGreatCAG
import Derived.Test.YtmomoeagnkjbiaaGreatCAH
import Derived.Test.YtmomoeagnkjbiaaGreatCAK
/- Opening a sight and a fraction off an argument. -/
namespace Go.Proofs.YtmomoeagnkjbiaaGreat
open Go.RowKit

theorem lit_k64 {n : Int} (h : (Lit.int .i64 n).wf = true) : i64B n := by
  simp [Lit.wf, IntKind.min, IntKind.max, IntKind.signed, IntKind.bits] at h
  unfold i64B
  omega
section
variable {H : Type} {enc : TypeId × Value → H} {P : Program}
open Go.ChangeShapes Go.WideShapes Go.Deep in
theorem sg_elem {w : World} {t ts ti td : TypeId} {f0 f1 f2 f3 f4 f5 f6 f7 f8 f9 g0 g1 : Field} (hs : P.underlying t = some (.struct #[f0, f1, f2, f3, f4, f5, f6, f7, f8, f9]))
    (h0 : f0.type = ts ∧ f0.offset = 0) (h1 : f1.type = ti ∧ f1.offset = 1) (h2 : f2.type = td ∧ f2.offset = 2) (h3 : f3.type = ti ∧ f3.offset = 4) (h4 : f4.type = ti ∧ f4.offset = 5)
    (h5 : f5.type = ti ∧ f5.offset = 6) (h6 : f6.type = ti ∧ f6.offset = 7) (h7 : f7.type = ti ∧ f7.offset = 8) (h8 : f8.type = ti ∧ f8.offset = 9) (h9 : f9.type = ti ∧ f9.offset = 10)
    (hd : P.underlying td = some (.struct #[g0, g1])) (hg0 : g0.type = ti ∧ g0.offset = 0) (hg1 : g1.type = ti ∧ g1.offset = 1)
    (cS : P.cellsOf ts = 1) (cI : P.cellsOf ti = 1) (cD : P.cellsOf td = 2)
    (hS : P.underlying ts = some .string) (hI : P.underlying ti = some (.int .i64))
    (n : Nat) (cs : List Value) (y : DataW H × List MemPlace) (hf : DataW.trod enc P w 0 (fun _ => true) true n t cs = some y) (hl : cs.length = 11) : ∃ s : SgV, cs = s.cells ∧ SgOk s := by
  match cs, hl with
  | [c0, c1, c2, c3, c4, c5, c6, c7, c8, c9, c10], _ =>
    obtain ⟨xs, m, _, hx, _, hlen, hg⟩ := DataW.trod_struct hs hf
    match xs, hlen with
    | [y0, y1, y2, y3, y4, y5, y6, y7, y8, y9], _ =>
      have e0 : DataW.trod enc P w 0 (fun _ => true) true m ts [c0] = some y0 := by simpa [Value.cells, h0, cS] using hg 0 f0 rfl
      have e1 : DataW.trod enc P w 0 (fun _ => true) true m ti [c1] = some y1 := by simpa [Value.cells, h1, cI] using hg 1 f1 rfl
      have e2 : DataW.trod enc P w 0 (fun _ => true) true m td [c2, c3] = some y2 := by simpa [Value.cells, h2, cD] using hg 2 f2 rfl
      have e3 : DataW.trod enc P w 0 (fun _ => true) true m ti [c4] = some y3 := by simpa [Value.cells, h3, cI] using hg 3 f3 rfl
      have e4 : DataW.trod enc P w 0 (fun _ => true) true m ti [c5] = some y4 := by simpa [Value.cells, h4, cI] using hg 4 f4 rfl
      have e5 : DataW.trod enc P w 0 (fun _ => true) true m ti [c6] = some y5 := by simpa [Value.cells, h5, cI] using hg 5 f5 rfl
      have e6 : DataW.trod enc P w 0 (fun _ => true) true m ti [c7] = some y6 := by simpa [Value.cells, h6, cI] using hg 6 f6 rfl
      have e7 : DataW.trod enc P w 0 (fun _ => true) true m ti [c8] = some y7 := by simpa [Value.cells, h7, cI] using hg 7 f7 rfl
      have e8 : DataW.trod enc P w 0 (fun _ => true) true m ti [c9] = some y8 := by simpa [Value.cells, h8, cI] using hg 8 f8 rfl
      have e9 : DataW.trod enc P w 0 (fun _ => true) true m ti [c10] = some y9 := by simpa [Value.cells, h9, cI] using hg 9 f9 rfl
      obtain ⟨b, q0, _, wb⟩ := DataW.trod_string hS e0
      obtain ⟨x1, q1, _, w1⟩ := DataW.trod_int hI e1
      obtain ⟨z0, z1, m2, hx2, _, k0, k1⟩ := trod_struct2 hd e2
      rw [hg0.1, hg0.2, cI] at k0
      rw [hg1.1, hg1.2, cI] at k1
      simp only [List.drop_zero, List.drop_succ_cons, List.take_succ_cons, List.take_zero] at k0 k1
      obtain ⟨x2, q2, _, w2⟩ := DataW.trod_int hI k0
      obtain ⟨x3, q3, _, w3⟩ := DataW.trod_int hI k1
      obtain ⟨x4, q4, _, w4⟩ := DataW.trod_int hI e3
      obtain ⟨x5, q5, _, w5⟩ := DataW.trod_int hI e4
      obtain ⟨x6, q6, _, w6⟩ := DataW.trod_int hI e5
      obtain ⟨x7, q7, _, w7⟩ := DataW.trod_int hI e6
      obtain ⟨x8, q8, _, w8⟩ := DataW.trod_int hI e7
      obtain ⟨x9, q9, _, w9⟩ := DataW.trod_int hI e8
      obtain ⟨x10, q10, _, w10⟩ := DataW.trod_int hI e9
      simp only [List.cons.injEq, and_true] at q0 q1 q2 q3 q4 q5 q6 q7 q8 q9 q10
      subst q0 q1 q2 q3 q4 q5 q6 q7 q8 q9 q10
      exact ⟨⟨b, x1, x2, x3, x4, x5, x6, x7, x8, x9, x10⟩, rfl, ⟨by have := wb; unfold maxLen at this; simpa using this, lit_k64 w2, lit_k64 w3, lit_k64 w4, lit_k64 w5⟩⟩
end
set_option maxRecDepth 100000 in
/-- A sight off an argument. -/
theorem sg_arg {H : Type} {enc : TypeId × Value → H} {w : World} {r : Reach} {b0 : Nat} {v : Value} {d : DataW H} {ps : List MemPlace} (hv : Value.okWide Tryz.prog w r b0 57 v) (h : DataW.Trod enc Tryz.prog w 0 (fun _ => true) true 57 v d ps) : ∃ s : SgV, v = s.val ∧ SgOk s := by
  have hC : Tryz.prog.cellsOf 57 = 11 := by kernel_rfl
  obtain ⟨cs, rfl, hsz⟩ := Go.WideShapes.okWide_struct Tryz.underlying57 hv
  obtain ⟨l⟩ := cs
  obtain ⟨fuel, hf⟩ := h
  obtain ⟨s, hs, hw⟩ := sg_elem (ts := 9) (ti := 3) (td := 55) Tryz.underlying57 ⟨rfl, rfl⟩ ⟨rfl, rfl⟩ ⟨rfl, rfl⟩ ⟨rfl, rfl⟩ ⟨rfl, rfl⟩ ⟨rfl, rfl⟩ ⟨rfl, rfl⟩ ⟨rfl, rfl⟩ ⟨rfl, rfl⟩ ⟨rfl, rfl⟩ Tryz.underlying55 ⟨rfl, rfl⟩ ⟨rfl, rfl⟩ (by kernel_rfl) (by kernel_rfl) (by kernel_rfl) Tryz.underlying9 Tryz.underlying3 fuel l _ hf (hsz.trans hC)
  exact ⟨s, by rw [hs]; rfl, hw⟩
end Go.Proofs.YtmomoeagnkjbiaaGreat
/- Sights off an argument. -/
namespace Go.Proofs.YtmomoeagnkjbiaaGreat
open Go.RowKit

set_option maxRecDepth 100000 in
theorem sgs_arg {H : Type} {enc : TypeId × Value → H} {w : World} {r : Reach} {b0 : Nat} {v : Value} {d : DataW H} {ps : List MemPlace} (hv : Value.okWide Tryz.prog w r b0 53 v) (h : DataW.Trod enc Tryz.prog w 0 (fun _ => true) true 53 v d ps) : ∃ l, SlG sgR w v l := by
  have hC : Tryz.prog.cellsOf sgR.E = sgR.k := by kernel_rfl
  have hel : ∀ n cs y, DataW.trod enc Tryz.prog w 0 (fun _ => true) true n sgR.E cs = some y → cs.length = sgR.k → ∃ z, cs = sgR.enc z ∧ sgR.wf z ∧ True := fun n cs y hf hl => by
    obtain ⟨s, h1, h2⟩ := sg_elem (ts := 9) (ti := 3) (td := 55) Tryz.underlying57 ⟨rfl, rfl⟩ ⟨rfl, rfl⟩ ⟨rfl, rfl⟩ ⟨rfl, rfl⟩ ⟨rfl, rfl⟩ ⟨rfl, rfl⟩ ⟨rfl, rfl⟩ ⟨rfl, rfl⟩ ⟨rfl, rfl⟩ ⟨rfl, rfl⟩ Tryz.underlying55 ⟨rfl, rfl⟩ ⟨rfl, rfl⟩ (by kernel_rfl) (by kernel_rfl) (by kernel_rfl) Tryz.underlying9 Tryz.underlying3 n cs y hf hl
    exact ⟨s, h1, h2, trivial⟩
  obtain ⟨l, hl, _⟩ := slG_arg (Q := fun _ => True) sgROk sgROk.und hC hel hv h
  exact ⟨l, hl⟩
end Go.Proofs.YtmomoeagnkjbiaaGreat
/- A row of records of the call's own, sorted by the library's SortFunc: what the world holds behind. -/
namespace Go.Proofs.YtmomoeagnkjbiaaGreat
open Go.RowKit Go.Sort
variable {α : Type} {R : RecT α} [Inhabited α]

theorem flatK_eq (hR : RecOk R) (l : List α) : (flatK R.enc R.k l.toArray).toList = l.flatMap R.enc := by
  apply List.ext_getElem?
  intro t
  have hs : (flatK R.enc R.k l.toArray).size = l.length * R.k := by rw [size_flatK]; simp
  by_cases ht : t < l.length * R.k
  · have hq : t / R.k < l.length := Nat.div_lt_of_lt_mul (by rw [Nat.mul_comm]; exact ht)
    have hm : t % R.k < R.k := Nat.mod_lt _ hR.pos
    have e1 : t = t / R.k * R.k + t % R.k := by rw [Nat.mul_comm]; exact (Nat.div_add_mod t R.k).symm
    have h1 : (flatK R.enc R.k l.toArray)[t]! = (R.enc l.toArray[t / R.k]!)[t % R.k]! := get_flatK _ _ _ _ (by simpa using ht)
    have h2 : (l.flatMap R.enc)[t]? = (R.enc l[t / R.k])[t % R.k]? := by
      conv => lhs; rw [e1]
      exact flat_get hR (List.getElem?_eq_getElem hq) hm
    rw [h2, Array.getElem?_toList, Array.getElem?_eq_getElem (by rw [hs]; exact ht)]
    rw [getElem!_pos _ t (by rw [hs]; exact ht)] at h1
    rw [h1]
    have h3 : l.toArray[t / R.k]! = l[t / R.k] := by rw [getElem!_pos _ _ (by simpa using hq)]; simp
    rw [h3, List.getElem?_eq_getElem (by rw [hR.len]; exact hm), getElem!_pos _ _ (by rw [hR.len]; exact hm)]
  · rw [Array.getElem?_toList, Array.getElem?_eq_none (by rw [hs]; omega), List.getElem?_eq_none (by rw [flat_len hR]; omega)]
theorem take_putCellsV (cur : Array Value) (ts : Array Value) (h : ts.size ≤ cur.size) : (putCells id 0 ts cur).toList.take ts.size = ts.toList := by
  apply List.ext_getElem?
  intro j
  by_cases hj : j < ts.size
  · rw [List.getElem?_take_of_lt hj, Array.getElem?_toList]
    simp [putCells, hj, show j < cur.size by omega]
  · rw [List.getElem?_take_eq_none (by omega), List.getElem?_eq_none (by simp; omega)]
theorem holdsK_row (hR : RecOk R) {w : World} {base g cap : Nat} {l : List α} (h : OwG R w base (.slice (some ⟨g, 0, none⟩) l.length cap) l) : HoldsK R.enc R.k w g 0 l.toArray := by
  intro j hj
  have hj' : j < l.length * R.k := by simpa using hj
  have hm : j % R.k < R.k := Nat.mod_lt _ hR.pos
  have hq : j / R.k < l.length := Nat.div_lt_of_lt_mul (by rw [Nat.mul_comm]; exact hj')
  have e1 : j = j / R.k * R.k + j % R.k := by rw [Nat.mul_comm]; exact (Nat.div_add_mod j R.k).symm
  refine ⟨?_, by rw [Nat.zero_add]; exact h.froz j⟩
  have h1 := h.cell hR (i := j / R.k) (j := j % R.k) (u := (R.enc l[j / R.k])[j % R.k]'(by rw [hR.len]; exact hm)) (List.getElem?_eq_getElem hq) (List.getElem?_eq_getElem _)
  rw [← e1] at h1
  rw [Nat.zero_add, h1, get_flatK _ _ _ _ (by simpa using hj')]
  have h3 : l.toArray[j / R.k]! = l[j / R.k] := by rw [getElem!_pos _ _ (by simpa using hq)]; simp
  rw [h3]
  show some _ = some (id _)
  rw [getElem!_pos _ _ (by rw [hR.len]; exact hm)]; rfl
/-- The world behind a sort: the same row holds the other list; nothing else has changed. -/
theorem owG_sorted (hR : RecOk R) {W0 w : World} (hw : Below W0.heap.size W0 w) {g cap n : Nat} {os : Array Obj} {l : List α} {d : Array α} (h : OwG R w W0.heap.size (.slice (some ⟨g, 0, none⟩) l.length cap) l) (hs : d.size = l.length) (hwf : ∀ x ∈ d.toList, R.wf x) :
    ∃ e, sortWorldK R.enc R.k w g 0 n d os = bw W0 e ∧ OwG R (bw W0 e) W0.heap.size (.slice (some ⟨g, 0, none⟩) l.length cap) d.toList := by
  rcases h.1.2 with ⟨h', _⟩ | ⟨g', cap', cur, h', hb, hg, hnc, hcm, hcs, htake⟩
  · cases h'
  · simp only [Value.slice.injEq, Option.some.injEq, Addr.mk.injEq, and_true, true_and] at h'
    obtain ⟨rfl, rfl⟩ := h'
    have hlen : d.toList.length = l.length := by simpa using hs
    have hgr : w.grownBy (sortWorldK R.enc R.k w g 0 n d os) (some g) := by
      refine ⟨rfl, rfl, rfl, by simp [sortWorldK, putRowK], fun k hk hne => ?_⟩
      unfold sortWorldK putRowK
      rw [heap_grow_old _ _ (by simpa using hk)]
      have : g ≠ k := fun e => hne (by rw [e])
      simp [putRow, mapBlock, Sort.ahead, Array.getElem?_modify, this]
    obtain ⟨e, he⟩ := bw_of (w := W0) (w' := sortWorldK R.enc R.k w g 0 n d os) (hw.grown hgr hw.size (fun k hk => by cases hk; exact hb))
    refine ⟨e, he, ?_, hwf⟩
    rw [← he]
    have hgl : g < w.heap.size := (Array.getElem?_eq_some_iff.1 hg).1
    have hf : (flatK R.enc R.k d).toList = d.toList.flatMap R.enc := by
      have := flatK_eq hR d.toList
      rwa [Array.toArray_toList] at this
    have hfs : (flatK R.enc R.k d).size = l.length * R.k := by rw [size_flatK, hs]
    have hh : (sortWorldK R.enc R.k w g 0 n d os).heap[g]? = some (.cells (putCells id 0 (flatK R.enc R.k d) cur) R.E (0, 0)) := by
      unfold sortWorldK putRowK
      rw [heap_grow_old _ _ (by simpa using hgl)]
      simp [putRow, mapBlock, Sort.ahead, Array.getElem?_modify, hg, onCells]
    refine ⟨by rw [flat_len hR], .inr ⟨g, cap, _, by rw [hlen], hb, hh, by rw [hlen]; exact hnc, hcm, by simp [putCells, hcs], ?_⟩⟩
    rw [← hf, hlen, ← hfs]
    exact take_putCellsV cur _ (by rw [hfs, hcs]; exact Nat.mul_le_mul_right _ hnc)
end Go.Proofs.YtmomoeagnkjbiaaGreat
/- average.Line: its rows of quotients; the library's sort of them. -/
namespace Go.Proofs.YtmomoeagnkjbiaaGreat
open Go.RowKit Go.Sort Go.Shelf

/-- A quotient within bounds. -/
def RisB : Type := { x : RisV // (-21600000 ≤ x.h ∧ x.h ≤ 21600000) ∧ 1 ≤ x.t ∧ x.t ≤ 172800000 }
instance : Inhabited RisB := ⟨⟨⟨0, 1⟩, by decide⟩⟩
def riR : RecT RisB := { E := 83, S := 81, k := 2, bytes := 16, enc := fun x => [.int .i64 x.1.h, .int .i64 x.1.t], wf := fun _ => True }
theorem info_ri : (Tryz.prog.info? 83).map (fun i => (i.zero.map (fun z => z.cells.size), i.size, i.bytes)) = some (some 2, 2, 16) := by kernel_rfl
theorem riOk : RecOk riR where
  len _ := rfl
  one x u hu := by
    rcases List.mem_cons.1 hu with rfl | hu
    · rfl
    · rw [List.mem_singleton.1 hu]; rfl
  pos := by decide
  und := Tryz.underlying81
  info := by
    have h := info_ri
    cases hi : Tryz.prog.info? 83 with
    | none => rw [hi] at h; cases h
    | some i =>
      rw [hi] at h
      simp only [Option.map_some, Option.some.injEq, Prod.mk.injEq] at h
      obtain ⟨h1, h2, h3⟩ := h
      cases hz : i.zero with
      | none => rw [hz] at h1; cases h1
      | some z =>
        rw [hz] at h1
        simp only [Option.map_some, Option.some.injEq] at h1
        exact ⟨i, z, hi, hz, h2, h3, h1⟩
  small := by decide
def cmpR (x y : RisB) : Int := x.1.h * y.1.t - y.1.h * x.1.t
theorem lt_cmpR (x y : RisB) : ltOf cmpR x y = !risLe y.1 x.1 := by
  unfold ltOf cmpR risLe
  rw [Bool.eq_iff_iff]; simp; omega
theorem swo_cmpR : SWO (ltOf cmpR) where
  irrefl x := by rw [lt_cmpR]; unfold risLe; simp
  trans x y z h1 h2 := by
    rw [lt_cmpR] at *
    simp only [Bool.not_eq_true'] at *
    have hx := x.2; have hy := y.2; have hz := z.2
    cases h : risLe z.1 x.1
    · rfl
    · have h3 := (risLe_tot z.1 y.1).resolve_left (by rw [h2]; decide)
      have := risLe_tr (by omega) (by omega) (by omega) h3 h
      rw [h1] at this; cases this
  ntrans x y z h1 h2 := by
    rw [lt_cmpR] at *
    simp only [Bool.not_eq_false'] at *
    have hx := x.2; have hy := y.2; have hz := z.2
    exact risLe_tr (by omega) (by omega) (by omega) h2 h1
theorem cmp_bd (x y : RisB) : -3732480000000000 ≤ x.1.h * y.1.t ∧ x.1.h * y.1.t ≤ 3732480000000000 := by
  have hx := x.2; have hy := y.2
  have h1 : (x.1.h * y.1.t).natAbs ≤ 21600000 * 172800000 := by rw [Int.natAbs_mul]; exact Nat.mul_le_mul (by omega) (by omega)
  omega
set_option maxHeartbeats 400000 in
theorem av_Line1 (x y : RisB) (w : World) :
    Calls Tryz.prog 40 #[(.agg #[.int .i64 (x.1.h), .int .i64 (x.1.t)]), (.agg #[.int .i64 (y.1.h), .int .i64 (y.1.t)])] w fun e w' => e = .returned (.int .i64 (cmpR x y)) ∧ w' = lay w [.inl (.cells #[.int .i64 y.1.h, .int .i64 y.1.t] 83 (0, 0)), .inl (.cells #[.int .i64 x.1.h, .int .i64 x.1.t] 83 (0, 0))] := by
  have h1 := cmp_bd x y
  have h2 := cmp_bd y x
  have k1 : IntKind.i64.wrap (x.1.h * y.1.t) = x.1.h * y.1.t := IntWalk.i64_in _ (by omega)
  have k2 : IntKind.i64.wrap (y.1.h * x.1.t) = y.1.h * x.1.t := IntWalk.i64_in _ (by omega)
  have k3 : IntKind.i64.wrap (x.1.h * y.1.t - y.1.h * x.1.t) = cmpR x y := IntWalk.i64_in _ (by omega)
  have k4 : IntKind.i64.wrap (cmpR x y) = cmpR x y := by rw [← k3]; exact IntWalk.i64_in _ (by rw [k3]; unfold cmpR; omega)
  clear h1 h2
  generalize x.1.h = xh at *
  generalize x.1.t = xt at *
  generalize y.1.h = yh at *
  generalize y.1.t = yt at *
  refine lay_start ?_
  go_enter Tryz.func40, Tryz.ntmps40
  go_wp2_with fail
  go_ret
  exact ⟨rfl, rfl⟩
theorem lay2_growR (W : World) (o1 o2 : Obj) : Go.Proofs.YtmomoeagnkjbiaaGreat.lay W [.inl o1, .inl o2] = grow (W.drewN 0) (#[o2] ++ #[o1]) := by
  show (W.alloc o2).alloc o1 = _
  rw [alloc_eq_grow, alloc_eq_grow, grow_grow]; rfl
theorem cmpLays_ri (blk off size : Nat) (w : World) : CmpLays Tryz.prog 40 #[] riR.enc 2 cmpR blk off size w :=
  fun _ _ _ _ x y => (av_Line1 x y _).mono fun _ _ ⟨he, hw⟩ => ⟨he, 0, _, hw.trans (lay2_growR _ _ _)⟩
theorem isAgg_ri : ∀ w, (isAgg 83).run Tryz.prog w = .ok true w := fun _ => by kernel_rfl
theorem sizeOf_ri : ∀ w, (Go.sizeOf 83).run Tryz.prog w = .ok 2 w := fun _ => by kernel_rfl
theorem av_sort (W0 : World) (v : Value) (l : List RisB) (w : World) (hw : Below W0.heap.size W0 w) (h : OwG riR w W0.heap.size v l) (hl : 0 < l.length) (hb : l.length ≤ 1000000000) :
    Calls Tryz.prog 39 #[v, .func (.func 40) #[] #[]] w fun e w' => e = .returned (.tuple #[]) ∧ ∃ d l', w' = bw W0 d ∧ l'.Perm l ∧ l'.Pairwise (fun a b => risLe a.1 b.1 = true) ∧ OwG riR (bw W0 d) W0.heap.size v l' := by
  obtain ⟨g, cap, rfl, h1, h2, h3⟩ := h.form1 hl
  have eg : ∀ args w, (callFunc 40 args).run Tryz.prog w = .ok (.enter 40 args) w := enters_of Tryz.func40 (by kernel_rfl) rfl
  have hcon := AnyQ.slices_SortFunc Tryz.sortRise 2 isAgg_ri sizeOf_ri riR.enc riOk.len riOk.one cmpR swo_cmpR 40 #[] g 0 cap l.toArray w eg (cmpLays_ri g 0 l.toArray.size w) (holdsK_row riOk h) h2 (by simp; omega)
  have hs : l.toArray.size = l.length := by simp
  rw [hs] at hcon
  refine Calls.mono hcon fun e w' ⟨he, d', n, os, hp, ho, hw'⟩ => ⟨he, ?_⟩
  have hsz : d'.size = l.length := by rw [← hs]; exact hp.1
  have hperm : d'.toList.Perm l := by
    have := hp.2.2
    rw [Array.extract_eq_self_of_le (by rw [hsz]; exact Nat.le_refl _), Array.extract_eq_self_of_le (by rw [hs]; exact Nat.le_refl _)] at this
    exact this
  obtain ⟨e', he', hown⟩ := owG_sorted riOk hw h hsz (n := n) (os := os) (fun x hx => h.2 x (hperm.mem_iff.1 hx))
  refine ⟨e', d'.toList, hw'.trans he', hperm, ?_, hown⟩
  rw [List.pairwise_iff_getElem]
  intro i j hi hj hij
  have hj' : j < l.length := by rw [← hsz]; simpa using hj
  have h5 := ho i j (Nat.zero_le _) hij hj'
  rw [lt_cmpR, getElem!_pos d' j (by omega), getElem!_pos d' i (by omega)] at h5
  simpa using h5
end Go.Proofs.YtmomoeagnkjbiaaGreat
/- Fractions in lowest terms: the plain law. No function of the program. -/
namespace Go.Proofs.YtmomoeagnkjbiaaGreat

theorem red_eq {a b c d : Nat} (hb : 0 < b) (hd : 0 < d) (h : a * d = c * b) : a / Nat.gcd a b = c / Nat.gcd c d ∧ b / Nat.gcd a b = d / Nat.gcd c d := by
  have e1 : a / Nat.gcd a b = (a * d) / Nat.gcd (a * d) (b * d) := by rw [Nat.gcd_mul_right, Nat.mul_div_mul_right _ _ hd]
  have e2 : b / Nat.gcd a b = (b * d) / Nat.gcd (a * d) (b * d) := by rw [Nat.gcd_mul_right, Nat.mul_div_mul_right _ _ hd]
  have e3 : c / Nat.gcd c d = (c * b) / Nat.gcd (c * b) (d * b) := by rw [Nat.gcd_mul_right, Nat.mul_div_mul_right _ _ hb]
  have e4 : d / Nat.gcd c d = (d * b) / Nat.gcd (c * b) (d * b) := by rw [Nat.gcd_mul_right, Nat.mul_div_mul_right _ _ hb]
  rw [e1, e2, e3, e4, h, Nat.mul_comm d b]
  exact ⟨rfl, rfl⟩
/-- Numerator and denominator in lowest terms, not yet bounded. -/
def mkN (a b : Int) : Int := let n : Int := ((a.natAbs / Nat.gcd a.natAbs b.natAbs : Nat) : Int); if decide (a < 0) != decide (b < 0) then -n else n
def mkD (a b : Int) : Int := ((b.natAbs / Nat.gcd a.natAbs b.natAbs : Nat) : Int)
def mkBig (a b : Int) : Bool := decide (1073741824 < (a.natAbs / Nat.gcd a.natAbs b.natAbs : Nat)) || decide (1073741824 < (b.natAbs / Nat.gcd a.natAbs b.natAbs : Nat))
/-- One value, one fraction. -/
theorem mk_same {a b c d : Int} (hb : 0 < b) (hd : 0 < d) (h : a * d = c * b) : mkN a b = mkN c d ∧ mkD a b = mkD c d ∧ mkBig a b = mkBig c d := by
  have hn : a.natAbs * d.natAbs = c.natAbs * b.natAbs := by rw [← Int.natAbs_mul, ← Int.natAbs_mul, h]
  obtain ⟨e1, e2⟩ := red_eq (a := a.natAbs) (b := b.natAbs) (c := c.natAbs) (d := d.natAbs) (by omega) (by omega) hn
  have hs : a < 0 ↔ c < 0 := by
    constructor
    · intro ha
      have h1 := Int.mul_neg_of_neg_of_pos ha hd
      rw [h] at h1
      exact Int.lt_of_not_ge fun hc => by have := Int.mul_nonneg hc (Int.le_of_lt hb); omega
    · intro hc
      have h1 := Int.mul_neg_of_neg_of_pos hc hb
      rw [← h] at h1
      exact Int.lt_of_not_ge fun ha => by have := Int.mul_nonneg ha (Int.le_of_lt hd); omega
  have hs2 : decide (a < 0) = decide (c < 0) := decide_eq_decide.2 hs
  have hb2 : decide (b < 0) = false := decide_eq_false (by omega)
  have hd2 : decide (d < 0) = false := decide_eq_false (by omega)
  unfold mkN mkD mkBig
  rw [e1, e2, hs2, hb2, hd2]
  exact ⟨rfl, rfl, rfl⟩
/-- A fraction with denominator 1. -/
theorem mk_whole {s d : Int} (hd : 0 < d) : mkN (s * d) d = s ∧ mkD (s * d) d = 1 := by
  obtain ⟨h1, h2, -⟩ := mk_same (a := s * d) (b := d) (c := s) (d := 1) hd (by omega) (by rw [Int.mul_one])
  rw [h1, h2]
  unfold mkN mkD
  have e : Nat.gcd s.natAbs (1 : Int).natAbs = 1 := by show Nat.gcd s.natAbs 1 = 1; exact Nat.gcd_one_right _
  rw [e]
  have e1 : decide ((1 : Int) < 0) = false := by decide
  rw [e1, Nat.div_one]
  refine ⟨?_, rfl⟩
  by_cases hs : s < 0
  · rw [decide_eq_true hs]
    show -((s.natAbs : Nat) : Int) = s
    omega
  · rw [decide_eq_false hs]
    show ((s.natAbs : Nat) : Int) = s
    omega
/-- The signed quotients are the numerator and the denominator. -/
theorem mk_div {a b : Int} : (a.natAbs / Nat.gcd a.natAbs b.natAbs) * Nat.gcd a.natAbs b.natAbs = a.natAbs ∧ (b.natAbs / Nat.gcd a.natAbs b.natAbs) * Nat.gcd a.natAbs b.natAbs = b.natAbs :=
  ⟨Nat.div_mul_cancel (Nat.gcd_dvd_left _ _), Nat.div_mul_cancel (Nat.gcd_dvd_right _ _)⟩
end Go.Proofs.YtmomoeagnkjbiaaGreat
/- average.residuals. -/
namespace Go.Proofs.YtmomoeagnkjbiaaGreat
open Go.RowKit

/-- The residuals of the readings up to an index. -/
def resK (t h : List Int) (n d : Int) (k : Nat) : List Int := (List.range k).map fun i => resI (nth t i) (nth h i) n d
theorem resK_len (t h : List Int) (n d : Int) (k : Nat) : (resK t h n d k).length = k := by unfold resK; simp
theorem resK_succ (t h : List Int) (n d : Int) (k : Nat) : resK t h n d (k + 1) = resK t h n d k ++ [resI (nth t k) (nth h k) n d] := by
  unfold resK
  rw [List.range_succ, List.map_append]; rfl
theorem resI_bd {t h n d : Int} (hs : SlOk n d) (t1 : -172800000 ≤ t ∧ t ≤ 172800000) (h1 : -1099511627776 ≤ h ∧ h ≤ 1099511627776) : (Lit.int .i64 (resI t h n d)).wf = true := by
  have := res_bd hs t1
  refine lit_b ?_
  unfold resI
  omega
set_option maxHeartbeats 1000000 in
set_option maxRecDepth 100000 in
theorem av_residuals (vt vh : Value) (t h : List Int) (n dn : Int) (w : World) (ht : Sl w vt t) (hh : Sl w vh h) (hl : t.length = h.length) (h1 : 1 ≤ t.length) (hn : t.length ≤ 1000000) (bt : Bd t 172800000) (bh : Bd h 1099511627776) (hs : SlOk n dn) :
    Calls Tryz.prog 44 #[vt, vh, (.agg #[.int .i64 (n), .int .i64 (dn)])] w (RwO w (resK t h n dn t.length)) := by
  have HR := Lib.hid (fun W i (hi : i < t.length) => av_residual (nth t i) (nth h i) n dn W hs (bt i hi) (bh i (by omega)))
  have HW := Lib.hid (fun i (hi : i < t.length) => resI_bd hs (bt i hi) (bh i (by omega)))
  have HK := Lib.hid (resK_succ t h n dn)
  have HL := Lib.hid (resK_len t h n dn)
  obtain ⟨b, o, cap, rfl, hc, -, hbs, hr⟩ := ht.open (by omega)
  obtain ⟨b2, o2, cap2, rfl, hc2, -, hbs2, hr2⟩ := hh.open (by omega)
  rw [← hl] at hr2 hc2 ⊢
  obtain ⟨m, hm⟩ : ∃ m, t.length = m := ⟨_, rfl⟩
  rw [hm] at HR HW hr hr2 hc hc2 h1 hn ⊢
  have HT := Lib.hid hr
  have HH := Lib.hid hr2
  have HRes : Hid (∀ k, resK t h n dn k = resK t h n dn k) := Lib.hid fun _ => rfl
  generalize resK t h n dn = RES at *
  clear hr hr2 hm hl ht hh bt bh hs HRes
  refine lay_start ?_
  go_enter Tryz.func44, Tryz.ntmps44
  go_wp2_with fail
  go_loopw [7, 11] (fun v7 v11 wr => ∃ (k : Nat) (dd : Ext), k ≤ m ∧ v11 = .int .i64 (k : Int) ∧ wr = lay w [.inr dd, .inl (.cells #[.int .i64 n, .int .i64 dn] 26 (0, 0))] ∧ Ow (lay w [.inr dd, .inl (.cells #[.int .i64 n, .int .i64 dn] 26 (0, 0))]) (lay w [.inl (.cells #[.int .i64 n, .int .i64 dn] 26 (0, 0))]).heap.size v7 (RES k)) (fun _ v11 _ => m - (intOf v11).toNat)
  case atStart => exact ⟨0, noExt _, Nat.zero_le _, rfl, (bw_noExt _).symm, by rw [show RES 0 = [] from List.eq_nil_of_length_eq_zero (HL.out 0)]; exact Ow.nil _ _⟩
  case round =>
    obtain ⟨k, dd, hk, rfl, rfl, hO⟩ := hrel
    have HO := Lib.hid hO
    clear hO
    by_cases hlt : k < m
    · have e1 := HT.out k hlt
      have e2 := HH.out k hlt
      have H1 := Lib.hid (fun W => HR.out W k hlt)
      have hwf := HW.out k hlt
      have hst := HK.out k
      have HST := Lib.hid hst
      have hlen : (RES k).length ≤ 1000000000 := by rw [HL.out]; omega
      have x1 : (k : Int) < (m : Int) := by omega
      have x0 : (0 : Int) ≤ (k : Int) := by omega
      have w3 : IntKind.i64.wrap ((k : Int) + 1) = (k : Int) + 1 := IntWalk.i64_in _ (by omega)
      obtain ⟨P, hP⟩ : ∃ P, resI (nth t k) (nth h k) n dn = P := ⟨_, rfl⟩
      rw [hP] at H1 hwf HST
      generalize nth t k = A at *
      generalize nth h k = B at *
      clear hst hP
      go_wp2_with fail
      refine region_mixT 12 [0, 0, 0, 0, 0, 0, 0, 0, 0, 0, 0, 1] (by kernel_rfl) (by kernel_rfl) (by kernel_rfl) (by kernel_rfl) (by simp) (by kernel_rfl) ?_
      simp only [List.take_succ_cons, List.take_zero, List.drop_succ_cons, List.drop_zero]
      repeat (first | (refine wpM_quiet (fun K hK => ?_); go_simp; first | (refine hK _ ?_; clear hK K) | (apply Exists.intro; refine ⟨fun _ => ?_, hK _ ?_⟩; (first | (go_at_call 93; exact bq (H1.out _) (fun d => ⟨d, rfl⟩))); clear hK K)) | (refine wpM_special (fun K hK d => ?_); go_simp; refine hK _ _ (by first | exact lay_in w [_] _ | exact lay_in w [_, _] _ | exact lay_in w [_, _, _] _ | exact lay_in w [_, _, _, _] _ | exact lay_in w [_, _, _, _, _] _ | exact lay_in w [_, _, _, _, _, _] _) ?_; clear hK K))
      refine wpM_nil ?_
      intro d1
      rw [lay_bw]
      refine push_int rfl _ _ rfl (lay w [.inl (.cells #[.int .i64 n, .int .i64 dn] 26 (0, 0))]) _ P 3 _ _ _ ?_ (ow_on (A := [_, _, _]) HO.out) ?_ rfl rfl hlen hwf ?_
      · exact lay_below (A := [_, _, _, _])
      · exact lay_get w _ 1 _ rfl
      intro v' d' hv'
      have HV := Lib.hid hv'
      clear hv'
      go_wp2_with fail
      go_roundw
      case rel => exact ⟨k + 1, d', hlt, by go_num, rfl, by rw [HST.out]; exact HV.out⟩
      case measure => simp [intOf]; omega
    · obtain rfl : k = m := by omega
      go_wp2_with fail
      go_ret
      obtain ⟨y, hy⟩ := lay_ex w [.inr dd, .inl (.cells #[.int .i64 n, .int .i64 dn] 26 (0, 0))]
      exact ⟨_, y, rfl, hy, by rw [← hy]; exact HO.out.le (lay_below (w := w) (A := [.inl (.cells #[.int .i64 n, .int .i64 dn] 26 (0, 0))]) (B := [])).size⟩
end Go.Proofs.YtmomoeagnkjbiaaGreat
