/- The library's slice functions at ints, over slices that read and rows of the call's own. -/
import Derived.Test.YtgpgfmemnhgmbaaProg
import Derived.Test.YtgpgfmemnhgmbaaLay
import Derived.Test.YtgpgfmemnhgmbaaRegion
import Derived.Test.YtgpgfmemnhgmbaaMix
import Derived.WalkKit
import Derived.WalkSpells
import Derived.WalkLawsBesides
import Derived.Lib.Hide
import Derived.BigQuiet
import Derived.Sort.OwnSortedInts
import Derived.Test.YtgpgfmemnhgmbaaSl
import Derived.Test.YtgpgfmemnhgmbaaShelf
namespace Go.Proofs.Ytgpgfmemnhgmbaa
open Go.RowKit Go.Sort

/-- The call returns a row of its own that holds these ints, in a world that extends the one before. -/
def Rw (w : World) (l : List Int) (e : Ending) (w' : World) : Prop := ∃ v d, e = .returned v ∧ w' = bw w d ∧ Ow (bw w d) w.heap.size v l
theorem bw_drewN (w : World) (q : Nat) : ∃ d, w.drewN q = bw w d := ⟨⟨#[], w.drawn + q⟩, by
  show w.drewN q = { w with heap := w.heap ++ #[], drawn := w.drawn + q }
  rw [Array.append_empty]; rfl⟩
theorem sl_Contains (v : Value) (l : List Int) (x : Int) (w : World) (h : Sl w v l) :
    Calls Try.prog 21 #[v, .int .i64 x] w fun e w' => e = .returned (.bool (l.contains x)) ∧ w' = w := by
  by_cases hl : l = []
  · subst hl
    obtain ⟨a, cap, rfl, -⟩ := h
    exact (Try.slices_Contains_int_empty a cap x w).mono fun e w' ⟨h1, h2⟩ => ⟨h1, h2⟩
  · obtain ⟨b, o, cap, rfl, hc, _, _, hr⟩ := h.open (List.length_pos_iff.2 hl)
    have := Try.slices_Contains_int b o l.length cap l x w (Nat.le_refl _) (by omega) hr
    rw [List.take_length] at this
    exact this
theorem sl_Equal (v1 v2 : Value) (l1 l2 : List Int) (w : World) (h1 : Sl w v1 l1) (h2 : Sl w v2 l2) :
    Calls Try.prog 14 #[v1, v2] w fun e w' => e = .returned (.bool (decide (l1 = l2))) ∧ ∃ d, w' = bw w d := by
  have hn : ∃ d, w = bw w d := lay_ex w []
  by_cases hl : l1 = []
  · subst hl
    obtain ⟨a, cap, rfl, -⟩ := h1
    obtain ⟨a2, cap2, rfl, hc2, -⟩ := h2
    refine (Try.slices_Equal_int_empty a a2 cap l2.length cap2 w (by omega)).mono fun e w' ⟨h1, h2⟩ => ⟨?_, by rw [h2]; exact hn⟩
    rw [h1]
    refine ret_bool ?_
    rw [Bool.eq_iff_iff]; simp only [decide_eq_true_eq]
    constructor
    · intro h; exact (List.eq_nil_of_length_eq_zero h).symm
    · intro h; rw [← h]; rfl
  · by_cases hlen : l1.length = l2.length
    · have h0 : 0 < l1.length := List.length_pos_iff.2 hl
      obtain ⟨b, o, cap, rfl, hc, _, _, hr⟩ := h1.open h0
      obtain ⟨b2, o2, cap2, rfl, hc2, _, _, hr2⟩ := h2.open (by omega)
      have := Try.slices_Equal_int b o l1.length cap b2 o2 l2.length cap2 l1 l2 w (Nat.le_refl _) (Nat.le_refl _) (by omega) (by omega) hr hr2
      rw [List.take_length, List.take_length] at this
      refine this.mono fun e w' ⟨h1, q, h2⟩ => ⟨?_, by rw [h2]; exact bw_drewN w q⟩
      rw [h1]
      exact ret_bool (by rw [Bool.eq_iff_iff]; simp)
    · obtain ⟨a, cap, rfl, hc, -⟩ := h1
      obtain ⟨a2, cap2, rfl, hc2, -⟩ := h2
      refine (Try.slices_Equal_int_lens a a2 l1.length cap l2.length cap2 w hlen).mono fun e w' ⟨h1, h2⟩ => ⟨?_, by rw [h2]; exact hn⟩
      rw [h1]
      exact ret_bool (by rw [Bool.eq_iff_iff]; simp; intro h; exact absurd (by rw [h]) hlen)
theorem sl_Clone (v : Value) (l : List Int) (w : World) (h : Sl w v l) (hl : 0 < l.length) (hb : l.length ≤ 1000000000) :
    Calls Try.prog 22 #[v] w (Rw w l) := by
  obtain ⟨b, o, cap, rfl, hc, hw, _, hr⟩ := h.open hl
  have := Try.slices_Clone_int b o l.length cap l w (Nat.le_refl _) (by omega) hr
  rw [List.take_length] at this
  refine this.mono fun e w' ⟨v', h1, h2, _, h4⟩ => ?_
  obtain ⟨d, rfl⟩ := bw_of h4
  exact ⟨v', d, h1, rfl, h2, hw⟩
def srt (l : List Int) : List Int := l.mergeSort fun x y => decide (x ≤ y)
theorem srt_len (l : List Int) : (srt l).length = l.length := List.length_mergeSort l
theorem mem_srt {l : List Int} {x : Int} : x ∈ srt l ↔ x ∈ l := List.mem_mergeSort
theorem wf_of_mem {l m : List Int} (h : ∀ i, i < l.length → (Lit.int .i64 (nth l i)).wf = true) (hm : ∀ x, x ∈ m → x ∈ l) : ∀ i, i < m.length → (Lit.int .i64 (nth m i)).wf = true := by
  intro i hi
  have h1 : nth m i ∈ m := by unfold nth; simp [List.getD, hi]
  obtain ⟨j, hj, e⟩ := List.getElem_of_mem (hm _ h1)
  have := h j hj
  rw [show nth l j = l[j] by unfold nth; simp [List.getD, hj], e] at this
  exact this
/-- A row that is written over by as many ints. -/
theorem row_put {w : World} {base g cap : Nat} {l ts : List Int} {q : Nat} {os : Array Obj} (h : Ow w base (.slice (some ⟨g, 0, none⟩) l.length cap) l) (hl : ts.length = l.length) (hw : ∀ i, i < ts.length → (Lit.int .i64 (nth ts i)).wf = true) :
    Ow (grow (putRow (Value.int .i64) (Sort.ahead w q) g 0 ts.toArray) os) base (.slice (some ⟨g, 0, none⟩) l.length cap) ts ∧ w.grownBy (grow (putRow (Value.int .i64) (Sort.ahead w q) g 0 ts.toArray) os) (some g) := by
  rcases h.1.2 with ⟨h', _⟩ | ⟨g', cap', cur, h', hb, hg, hnc, hcm, hcs, htake⟩
  · cases h'
  · cases h'
    refine ⟨⟨?_, hw⟩, grownBy_sortedI _⟩
    have := ownsRow_sortedI (os := os) (n := q) hl hb hg hnc hcm hcs
    rw [hl]; exact this
theorem holds_row {w : World} {base g cap : Nat} {l : List Int} (h : Ow w base (.slice (some ⟨g, 0, none⟩) l.length cap) l) : Holds (Value.int .i64) w g 0 l.toArray := by
  rcases h.1.2 with ⟨h', _⟩ | ⟨g', cap', cur, h', hb, hg, hnc, hcm, hcs, htake⟩
  · cases h'
  · cases h'
    exact holds_of_blockI hg (by simpa using htake)
theorem bw_grown {W0 w w' : World} {g : Nat} (hw : Below W0.heap.size W0 w) (hg : w.grownBy w' (some g)) (h : W0.heap.size ≤ g) : ∃ d, w' = bw W0 d :=
  bw_of (hw.grown hg hw.size (fun k hk => by cases hk; exact h))
theorem sl_Sort (W0 : World) (v : Value) (l : List Int) (w : World) (hw : Below W0.heap.size W0 w) (h : Ow w W0.heap.size v l) (hb : l.length ≤ 1000000000) :
    Calls Try.prog 57 #[v] w fun e w' => e = .returned (.tuple #[]) ∧ ∃ d, w' = bw W0 d ∧ Ow (bw W0 d) W0.heap.size v (srt l) := by
  by_cases hl : l = []
  · subst hl
    obtain ⟨a, cap, rfl⟩ := h.form
    obtain ⟨d, rfl⟩ := bw_of hw
    exact (Try.slices_Sort_int_none a cap _).mono fun e w' ⟨h1, h2⟩ => ⟨h1, d, h2, by rw [show srt [] = [] from List.eq_nil_of_length_eq_zero (srt_len [])]; exact h⟩
  · obtain ⟨g, cap, rfl, h1, h2, h3⟩ := h.form1 (List.length_pos_iff.2 hl)
    refine (Try.slices_Sort_int g 0 cap l w (holds_row h) h2 (by omega)).mono fun e w' ⟨e1, q, os, e2⟩ => ⟨e1, ?_⟩
    have := row_put (q := q) (os := os) h (srt_len l) (wf_of_mem h.2 fun x hx => mem_srt.1 hx)
    rw [e2]
    obtain ⟨d, hd⟩ := bw_grown hw this.2 h1
    refine ⟨d, hd, ?_⟩
    have h5 := this.1
    rw [show grow (putRow (Value.int .i64) (Sort.ahead w q) g 0 (srt l).toArray) os = bw W0 d from hd] at h5
    exact h5
theorem ow_take {w : World} {base g cap n : Nat} {l m : List Int} (h : Ow w base (.slice (some ⟨g, 0, none⟩) n cap) (l ++ m)) : Ow w base (.slice (some ⟨g, 0, none⟩) l.length cap) l := by
  rcases h.1.2 with ⟨h', _⟩ | ⟨g', cap', cur, h', hb, hg, hnc, hcm, hcs, htake⟩
  · cases h'
  · cases h'
    refine ⟨⟨by simp, .inr ⟨g, cap, cur, rfl, hb, hg, ?_, hcm, hcs, ?_⟩⟩, wf_of_mem h.2 fun x hx => List.mem_append_left _ hx⟩
    · have : (l ++ m).length ≤ cap := hnc
      rw [List.length_append] at this; omega
    · have e : cur.toList.take (l.length * 1) = (cur.toList.take ((l ++ m).length * 1)).take (l.length * 1) := by
        rw [List.take_take, Nat.min_eq_left (by rw [List.length_append]; omega)]
      rw [e, htake, List.map_append, Nat.mul_one, List.take_left' (by simp)]
theorem nth_mem {l : List Int} {i : Nat} (h : i < l.length) : nth l i ∈ l := by unfold nth; simp [List.getD, h]
/-- Facts on Compact: what it keeps are elements of the list. -/
theorem sl_Compact (W0 : World) (v : Value) (l : List Int) (w : World) (hw : Below W0.heap.size W0 w) (h : Ow w W0.heap.size v l) (hb : l.length ≤ 1000000000) (hsub : ∀ x, x ∈ Lib.compact l → x ∈ l) (hlen : (Lib.compact l).length ≤ l.length) :
    Calls Try.prog 58 #[v] w fun e w' => ∃ v' d, e = .returned v' ∧ w' = bw W0 d ∧ Ow (bw W0 d) W0.heap.size v' (Lib.compact l) := by
  by_cases hl : l = []
  · subst hl
    obtain ⟨a, cap, rfl⟩ := h.form
    obtain ⟨d, rfl⟩ := bw_of hw
    exact (Try.slices_Compact_int_empty a cap _).mono fun e w' ⟨h1, h2⟩ => ⟨_, d, h1, h2, h⟩
  · obtain ⟨g, cap, rfl, h1, h2, h3⟩ := h.form1 (List.length_pos_iff.2 hl)
    refine (Try.slices_Compact_int g 0 cap l w (holds_row h) (by omega) h3.1).mono fun e w' ⟨e1, q, e2⟩ => ?_
    have := row_put (q := q) (os := #[]) (ts := Lib.compact l ++ List.replicate (l.length - (Lib.compact l).length) 0) h (by simp; omega) (fun i hi => by
      have hm := nth_mem hi
      rcases List.mem_append.1 hm with hm | hm
      · obtain ⟨j, hj, e⟩ := List.getElem_of_mem (hsub _ hm)
        have := h.2 j hj
        rw [show nth l j = l[j] by unfold nth; simp [List.getD, hj], e] at this
        exact this
      · rw [(List.mem_replicate.1 hm).2]; decide)
    rw [grow_empty] at this
    rw [e2]
    obtain ⟨d, hd⟩ := bw_grown hw this.2 h1
    refine ⟨_, d, e1, hd, ?_⟩
    have h5 := this.1
    rw [hd] at h5
    exact ow_take h5
end Go.Proofs.Ytgpgfmemnhgmbaa
