/- A row of records of the call's own, sorted by the library's SortFunc: what the world holds behind. -/
import Derived.Test.YtlkphcjlgbimkaaProg
import Derived.Test.YtlkphcjlgbimkaaLay
import Derived.Test.YtlkphcjlgbimkaaRegion
import Derived.Test.YtlkphcjlgbimkaaMix
import Derived.WalkKit
import Derived.WalkSpells
import Derived.WalkLawsBesides
import Derived.Lib.Hide
import Derived.BigQuiet
import Derived.Sort.OwnSortedInts
import Derived.Shelf.GgSortFunc.InsertionK
import Derived.Test.YtlkphcjlgbimkaaRow
namespace Go.Proofs.Ytlkphcjlgbimkaa
open Go.RowKit Go.Sort
variable {α : Type} {R : RecT α} [Inhabited α]

theorem flatK_eq (hR : RecOk R) (l : List α) : (flatK R.enc R.k l.toArray).toList = l.flatMap R.enc := by
  apply List.ext_getElem?
  intro t
  have hs : (flatK R.enc R.k l.toArray).size = l.length * R.k := by rw [size_flatK]; simp
  by_cases ht : t < l.length * R.k
  · have hq : t / R.k < l.length := Nat.div_lt_of_lt_mul (by rw [Nat.mul_comm]; exact ht)
    have hm : t % R.k < R.k := Nat.mod_lt _ hR.pos
    have e1 : t = t / R.k * R.k + t % R.k := by rw [Nat.mul_comm]; exact (Nat.div_add_mod t R.k).symm
    have h1 : (flatK R.enc R.k l.toArray)[t]! = (R.enc l.toArray[t / R.k]!)[t % R.k]! := get_flatK _ _ _ _ (by simpa using ht)
    have h2 : (l.flatMap R.enc)[t]? = (R.enc l[t / R.k])[t % R.k]? := by
      conv => lhs; rw [e1]
      exact flat_get hR (List.getElem?_eq_getElem hq) hm
    rw [h2, Array.getElem?_toList, Array.getElem?_eq_getElem (by rw [hs]; exact ht)]
    rw [getElem!_pos _ t (by rw [hs]; exact ht)] at h1
    rw [h1]
    have h3 : l.toArray[t / R.k]! = l[t / R.k] := by rw [getElem!_pos _ _ (by simpa using hq)]; simp
    rw [h3, List.getElem?_eq_getElem (by rw [hR.len]; exact hm), getElem!_pos _ _ (by rw [hR.len]; exact hm)]
  · rw [Array.getElem?_toList, Array.getElem?_eq_none (by rw [hs]; omega), List.getElem?_eq_none (by rw [flat_len hR]; omega)]
theorem take_putCellsV (cur : Array Value) (ts : Array Value) (h : ts.size ≤ cur.size) : (putCells id 0 ts cur).toList.take ts.size = ts.toList := by
  apply List.ext_getElem?
  intro j
  by_cases hj : j < ts.size
  · rw [List.getElem?_take_of_lt hj, Array.getElem?_toList]
    simp [putCells, hj, show j < cur.size by omega]
  · rw [List.getElem?_take_eq_none (by omega), List.getElem?_eq_none (by simp; omega)]
theorem holdsK_row (hR : RecOk R) {w : World} {base g cap : Nat} {l : List α} (h : OwG R w base (.slice (some ⟨g, 0, none⟩) l.length cap) l) : HoldsK R.enc R.k w g 0 l.toArray := by
  intro j hj
  have hj' : j < l.length * R.k := by simpa using hj
  have hm : j % R.k < R.k := Nat.mod_lt _ hR.pos
  have hq : j / R.k < l.length := Nat.div_lt_of_lt_mul (by rw [Nat.mul_comm]; exact hj')
  have e1 : j = j / R.k * R.k + j % R.k := by rw [Nat.mul_comm]; exact (Nat.div_add_mod j R.k).symm
  refine ⟨?_, by rw [Nat.zero_add]; exact h.froz j⟩
  have h1 := h.cell hR (i := j / R.k) (j := j % R.k) (u := (R.enc l[j / R.k])[j % R.k]'(by rw [hR.len]; exact hm)) (List.getElem?_eq_getElem hq) (List.getElem?_eq_getElem _)
  rw [← e1] at h1
  rw [Nat.zero_add, h1, get_flatK _ _ _ _ (by simpa using hj')]
  have h3 : l.toArray[j / R.k]! = l[j / R.k] := by rw [getElem!_pos _ _ (by simpa using hq)]; simp
  rw [h3]
  show some _ = some (id _)
  rw [getElem!_pos _ _ (by rw [hR.len]; exact hm)]; rfl
/-- The world behind a sort: the same row holds the other list; nothing else has changed. -/
theorem owG_sorted (hR : RecOk R) {W0 w : World} (hw : Below W0.heap.size W0 w) {g cap n : Nat} {os : Array Obj} {l : List α} {d : Array α} (h : OwG R w W0.heap.size (.slice (some ⟨g, 0, none⟩) l.length cap) l) (hs : d.size = l.length) (hwf : ∀ x ∈ d.toList, R.wf x) :
    ∃ e, sortWorldK R.enc R.k w g 0 n d os = bw W0 e ∧ OwG R (bw W0 e) W0.heap.size (.slice (some ⟨g, 0, none⟩) l.length cap) d.toList := by
  rcases h.1.2 with ⟨h', _⟩ | ⟨g', cap', cur, h', hb, hg, hnc, hcm, hcs, htake⟩
  · cases h'
  · simp only [Value.slice.injEq, Option.some.injEq, Addr.mk.injEq, and_true, true_and] at h'
    obtain ⟨rfl, rfl⟩ := h'
    have hlen : d.toList.length = l.length := by simpa using hs
    have hgr : w.grownBy (sortWorldK R.enc R.k w g 0 n d os) (some g) := by
      refine ⟨rfl, rfl, rfl, by simp [sortWorldK, putRowK], fun k hk hne => ?_⟩
      unfold sortWorldK putRowK
      rw [heap_grow_old _ _ (by simpa using hk)]
      have : g ≠ k := fun e => hne (by rw [e])
      simp [putRow, mapBlock, Sort.ahead, Array.getElem?_modify, this]
    obtain ⟨e, he⟩ := bw_of (w := W0) (w' := sortWorldK R.enc R.k w g 0 n d os) (hw.grown hgr hw.size (fun k hk => by cases hk; exact hb))
    refine ⟨e, he, ?_, hwf⟩
    rw [← he]
    have hgl : g < w.heap.size := (Array.getElem?_eq_some_iff.1 hg).1
    have hf : (flatK R.enc R.k d).toList = d.toList.flatMap R.enc := by
      have := flatK_eq hR d.toList
      rwa [Array.toArray_toList] at this
    have hfs : (flatK R.enc R.k d).size = l.length * R.k := by rw [size_flatK, hs]
    have hh : (sortWorldK R.enc R.k w g 0 n d os).heap[g]? = some (.cells (putCells id 0 (flatK R.enc R.k d) cur) R.E (0, 0)) := by
      unfold sortWorldK putRowK
      rw [heap_grow_old _ _ (by simpa using hgl)]
      simp [putRow, mapBlock, Sort.ahead, Array.getElem?_modify, hg, onCells]
    refine ⟨by rw [flat_len hR], .inr ⟨g, cap, _, by rw [hlen], hb, hh, by rw [hlen]; exact hnc, hcm, by simp [putCells, hcs], ?_⟩⟩
    rw [← hf, hlen, ← hfs]
    exact take_putCellsV cur _ (by rw [hfs, hcs]; exact Nat.mul_le_mul_right _ hnc)
end Go.Proofs.Ytlkphcjlgbimkaa
