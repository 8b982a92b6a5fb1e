/- Contracts and plain laws, several texts in one: Va4; Shl; Va5; Av6 -/
import Derived.Test.YtmomoeagnkjbiaaGreatProg
import Derived.WalkKit
import Derived.WalkSpells
import Derived.WalkLawsBesides
import Derived.Lib.Hide
import Derived.BigQuiet
import Derived.Sort.OwnSortedInts
import Derived.Test.YtmomoeagnkjbiaaGreatBAA
import Derived.Test.YtmomoeagnkjbiaaGreatBAB
import Derived.Test.YtmomoeagnkjbiaaGreatBAC
import Derived.Test.YtmomoeagnkjbiaaGreatBAD
import Derived.Test.YtmomoeagnkjbiaaGreatBAE
import Derived.Test.YtmomoeagnkjbiaaGreatBAG
import Derived.Test.YtmomoeagnkjbiaaGreatBAI
import Derived.Test.YtmomoeagnkjbiaaGreatBAS
/- slices.Values and Collect, with no fence. -/
namespace Go.Proofs.YtmomoeagnkjbiaaGreat
open Go.RowKit Go.Shelf

/-- A fence of all functions. -/
def allF : Fence := { fn := fun _ => True }
theorem vl_Values (a : Option Addr) (len cap : Nat) (w : World) :
    Calls Tryz.prog 92 #[.slice a len cap] w fun e w' => e = .returned (.func (.func 142) #[] #[.pointer (some ⟨w.heap.size, 0, none⟩)]) ∧ w' = w.alloc (.cells #[.slice a len cap] 41) :=
  (vl_values_in allF 1 trivial rfl a len cap w).calls (fun k => by simp [Fence.room, allF])
theorem vl_Collect (Bs : Nat) (sv : Value) (zs : List Int) (hlen : zs.length ≤ 1000000000) (w : World) (hBs : Bs < w.heap.size) (hc : w.cell? ⟨Bs, 0, none⟩ = some sv) (hI : IntsV w.heap.size w sv zs) :
    Calls Tryz.prog 140 #[.func (.func 142) #[] #[.pointer (some ⟨Bs, 0, none⟩)]] w fun e W' => ∃ v, e = .returned v ∧ W'.ownsRow w.heap.size 3 1 v zs.length (zs.map (Value.int .i64)) ∧ Below w.heap.size w W' :=
  (vl_collect allF 4 trivial trivial trivial rfl (by omega) Bs sv zs hlen w hBs hc hI).calls (fun k => by simp [Fence.room, allF])
end Go.Proofs.YtmomoeagnkjbiaaGreat
/- The library's slice functions at ints, over slices that read and rows of the call's own. -/
namespace Go.Proofs.YtmomoeagnkjbiaaGreat
open Go.RowKit Go.Sort

/-- The call returns a row of its own that holds these ints, in a world that extends the one before. -/
def Rw (w : World) (l : List Int) (e : Ending) (w' : World) : Prop := ∃ v d, e = .returned v ∧ w' = bw w d ∧ Ow (bw w d) w.heap.size v l
theorem bw_drewN (w : World) (q : Nat) : ∃ d, w.drewN q = bw w d := ⟨⟨#[], w.drawn + q⟩, by
  show w.drewN q = { w with heap := w.heap ++ #[], drawn := w.drawn + q }
  rw [Array.append_empty]; rfl⟩
theorem sl_Contains (v : Value) (l : List Int) (x : Int) (w : World) (h : Sl w v l) :
    Calls Tryz.prog 55 #[v, .int .i64 x] w fun e w' => e = .returned (.bool (l.contains x)) ∧ w' = w := by
  by_cases hl : l = []
  · subst hl
    obtain ⟨a, cap, rfl, -⟩ := h
    exact (Tryz.slices_Contains_int_empty a cap x w).mono fun e w' ⟨h1, h2⟩ => ⟨h1, h2⟩
  · obtain ⟨b, o, cap, rfl, hc, _, _, hr⟩ := h.open (List.length_pos_iff.2 hl)
    have := Tryz.slices_Contains_int b o l.length cap l x w (Nat.le_refl _) (by omega) hr
    rw [List.take_length] at this
    exact this
theorem sl_Equal (v1 v2 : Value) (l1 l2 : List Int) (w : World) (h1 : Sl w v1 l1) (h2 : Sl w v2 l2) :
    Calls Tryz.prog 21 #[v1, v2] w fun e w' => e = .returned (.bool (decide (l1 = l2))) ∧ ∃ d, w' = bw w d := by
  have hn : ∃ d, w = bw w d := lay_ex w []
  by_cases hl : l1 = []
  · subst hl
    obtain ⟨a, cap, rfl, -⟩ := h1
    obtain ⟨a2, cap2, rfl, hc2, -⟩ := h2
    refine (Tryz.slices_Equal_int_empty a a2 cap l2.length cap2 w (by omega)).mono fun e w' ⟨h1, h2⟩ => ⟨?_, by rw [h2]; exact hn⟩
    rw [h1]
    refine ret_bool ?_
    rw [Bool.eq_iff_iff]; simp only [decide_eq_true_eq]
    constructor
    · intro h; exact (List.eq_nil_of_length_eq_zero h).symm
    · intro h; rw [← h]; rfl
  · by_cases hlen : l1.length = l2.length
    · have h0 : 0 < l1.length := List.length_pos_iff.2 hl
      obtain ⟨b, o, cap, rfl, hc, _, _, hr⟩ := h1.open h0
      obtain ⟨b2, o2, cap2, rfl, hc2, _, _, hr2⟩ := h2.open (by omega)
      have := Tryz.slices_Equal_int b o l1.length cap b2 o2 l2.length cap2 l1 l2 w (Nat.le_refl _) (Nat.le_refl _) (by omega) (by omega) hr hr2
      rw [List.take_length, List.take_length] at this
      refine this.mono fun e w' ⟨h1, q, h2⟩ => ⟨?_, by rw [h2]; exact bw_drewN w q⟩
      rw [h1]
      exact ret_bool (by rw [Bool.eq_iff_iff]; simp)
    · obtain ⟨a, cap, rfl, hc, -⟩ := h1
      obtain ⟨a2, cap2, rfl, hc2, -⟩ := h2
      refine (Tryz.slices_Equal_int_lens a a2 l1.length cap l2.length cap2 w hlen).mono fun e w' ⟨h1, h2⟩ => ⟨?_, by rw [h2]; exact hn⟩
      rw [h1]
      exact ret_bool (by rw [Bool.eq_iff_iff]; simp; intro h; exact absurd (by rw [h]) hlen)
def srt (l : List Int) : List Int := l.mergeSort fun x y => decide (x ≤ y)
theorem srt_len (l : List Int) : (srt l).length = l.length := List.length_mergeSort l
theorem mem_srt {l : List Int} {x : Int} : x ∈ srt l ↔ x ∈ l := List.mem_mergeSort
theorem wf_of_mem {l m : List Int} (h : ∀ i, i < l.length → (Lit.int .i64 (nth l i)).wf = true) (hm : ∀ x, x ∈ m → x ∈ l) : ∀ i, i < m.length → (Lit.int .i64 (nth m i)).wf = true := by
  intro i hi
  have h1 : nth m i ∈ m := by unfold nth; simp [List.getD, hi]
  obtain ⟨j, hj, e⟩ := List.getElem_of_mem (hm _ h1)
  have := h j hj
  rw [show nth l j = l[j] by unfold nth; simp [List.getD, hj], e] at this
  exact this
/-- A row that is written over by as many ints. -/
theorem row_put {w : World} {base g cap : Nat} {l ts : List Int} {q : Nat} {os : Array Obj} (h : Ow w base (.slice (some ⟨g, 0, none⟩) l.length cap) l) (hl : ts.length = l.length) (hw : ∀ i, i < ts.length → (Lit.int .i64 (nth ts i)).wf = true) :
    Ow (grow (putRow (Value.int .i64) (Sort.ahead w q) g 0 ts.toArray) os) base (.slice (some ⟨g, 0, none⟩) l.length cap) ts ∧ w.grownBy (grow (putRow (Value.int .i64) (Sort.ahead w q) g 0 ts.toArray) os) (some g) := by
  rcases h.1.2 with ⟨h', _⟩ | ⟨g', cap', cur, h', hb, hg, hnc, hcm, hcs, htake⟩
  · cases h'
  · cases h'
    refine ⟨⟨?_, hw⟩, grownBy_sortedI _⟩
    have := ownsRow_sortedI (os := os) (n := q) hl hb hg hnc hcm hcs
    rw [hl]; exact this
theorem holds_row {w : World} {base g cap : Nat} {l : List Int} (h : Ow w base (.slice (some ⟨g, 0, none⟩) l.length cap) l) : Holds (Value.int .i64) w g 0 l.toArray := by
  rcases h.1.2 with ⟨h', _⟩ | ⟨g', cap', cur, h', hb, hg, hnc, hcm, hcs, htake⟩
  · cases h'
  · cases h'
    exact holds_of_blockI hg (by simpa using htake)
theorem bw_grown {W0 w w' : World} {g : Nat} (hw : Below W0.heap.size W0 w) (hg : w.grownBy w' (some g)) (h : W0.heap.size ≤ g) : ∃ d, w' = bw W0 d :=
  bw_of (hw.grown hg hw.size (fun k hk => by cases hk; exact h))
theorem sl_Sort (W0 : World) (v : Value) (l : List Int) (w : World) (hw : Below W0.heap.size W0 w) (h : Ow w W0.heap.size v l) (hb : l.length ≤ 1000000000) :
    Calls Tryz.prog 141 #[v] w fun e w' => e = .returned (.tuple #[]) ∧ ∃ d, w' = bw W0 d ∧ Ow (bw W0 d) W0.heap.size v (srt l) := by
  by_cases hl : l = []
  · subst hl
    obtain ⟨a, cap, rfl⟩ := h.form
    obtain ⟨d, rfl⟩ := bw_of hw
    exact (Tryz.slices_Sort_int_none a cap _).mono fun e w' ⟨h1, h2⟩ => ⟨h1, d, h2, by rw [show srt [] = [] from List.eq_nil_of_length_eq_zero (srt_len [])]; exact h⟩
  · obtain ⟨g, cap, rfl, h1, h2, h3⟩ := h.form1 (List.length_pos_iff.2 hl)
    refine (Tryz.slices_Sort_int g 0 cap l w (holds_row h) h2 (by omega)).mono fun e w' ⟨e1, q, os, e2⟩ => ⟨e1, ?_⟩
    have := row_put (q := q) (os := os) h (srt_len l) (wf_of_mem h.2 fun x hx => mem_srt.1 hx)
    rw [e2]
    obtain ⟨d, hd⟩ := bw_grown hw this.2 h1
    refine ⟨d, hd, ?_⟩
    have h5 := this.1
    rw [show grow (putRow (Value.int .i64) (Sort.ahead w q) g 0 (srt l).toArray) os = bw W0 d from hd] at h5
    exact h5
end Go.Proofs.YtmomoeagnkjbiaaGreat
/- slices.Sorted of slices.Values at ints; average.median. -/
namespace Go.Proofs.YtmomoeagnkjbiaaGreat
open Go.RowKit Go.Shelf

theorem IntsV.of {w : World} {v : Value} {l : List Int} (h : Sl w v l) (h1 : 1 ≤ l.length) : IntsV w.heap.size w v l := by
  obtain ⟨b, o, cap, rfl, _, _, hb, hr⟩ := h.open (by omega)
  exact .inr ⟨b, o, cap, rfl, hb, fun j hj => by rw [hr j hj]; rfl⟩
set_option maxRecDepth 100000 in
theorem vl_Sorted (Bs : Nat) (sv : Value) (l : List Int) (w : World) (hBs : Bs < w.heap.size) (hc : w.cell? ⟨Bs, 0, none⟩ = some sv) (hs : Sl w sv l) (h1 : 1 ≤ l.length) (hn : l.length ≤ 1000000) :
    Calls Tryz.prog 91 #[.func (.func 142) #[] #[.pointer (some ⟨Bs, 0, none⟩)]] w (RwO w (srtI l)) := by
  have HC := Lib.hid (vl_Collect Bs sv l (by omega) w hBs hc (IntsV.of hs h1))
  have hw := fun i (hi : i < l.length) => (hs.open (by omega)).choose_spec.choose_spec.choose_spec.2.2.1 i hi
  have HO : Hid (∀ W v, W.ownsRow w.heap.size 3 1 v l.length (l.map (Value.int .i64)) → Ow W w.heap.size v l) := Lib.hid fun W v h => ⟨h, hw⟩
  have HL : Hid (l.length ≤ 1000000000) := Lib.hid (by omega)
  clear hs hw hc hBs h1 hn
  refine lay_start ?_
  go_enter Tryz.func91, Tryz.ntmps91
  go_wp2_with fail
  refine HC.out.mono ?_
  rintro e w' ⟨v, rfl, hv, hb⟩
  obtain ⟨d, rfl⟩ := bw_of hb
  have hv2 := HO.out _ _ hv
  have HS := Lib.hid (sl_Sort w v l (bw w d) hb hv2 HL.out)
  obtain ⟨a, cap, rfl⟩ := hv2.form
  obtain ⟨q, hq⟩ : ∃ q, l.length = q := ⟨_, rfl⟩
  rw [hq] at HS ⊢
  clear hv hv2 hb
  rw [show bw w d = lay w [.inr d] from rfl] at HS ⊢
  go_wp2_with fail
  refine HS.out.mono ?_
  rintro e w' ⟨rfl, d2, rfl, h2⟩
  have H2 := Lib.hid h2
  clear h2
  rw [show bw w d2 = lay w [.inr d2] from rfl]
  go_wp2_with fail
  go_ret
  exact ⟨_, d2, rfl, rfl, H2.out⟩
set_option maxRecDepth 100000 in
theorem av_median (v : Value) (l : List Int) (w : World) (hs : Sl w v l) (h1 : 1 ≤ l.length) (hn : l.length ≤ 1000000) :
    Calls Tryz.prog 43 #[v] w fun e w' => e = .returned (.int .i64 (medI l)) ∧ ∃ d, w' = bw w d := by
  have HS := Lib.hid (fun W Bs hBs hc (h : Sl W v l) => vl_Sorted Bs v l W hBs hc h h1 hn)
  have HV := Lib.hid hs
  obtain ⟨b, o, cap, rfl, -⟩ := hs.open (by omega)
  have HL := Lib.hid (srtI_len l)
  obtain ⟨m, hm⟩ : ∃ m, l.length = m := ⟨_, rfl⟩
  obtain ⟨q, hq⟩ : ∃ q, (m - 1) / 2 = q := ⟨_, rfl⟩
  have hmed : medI l = nth (srtI l) q := by unfold medI; rw [hm, hq]
  have HLw := Lib.hid (fun W => av_lower m W (by omega) (by omega))
  rw [hq] at HLw
  rw [hmed]
  rw [hm] at HL HS HV h1 hn ⊢
  generalize srtI l = L at *
  obtain ⟨X, hX⟩ : ∃ X, X = nth L q := ⟨_, rfl⟩
  rw [← hX]
  have HX := Lib.hid hX
  have HQ : Hid (q < m) := Lib.hid (by omega)
  have x0 : (0 : Int) ≤ (q : Int) := by omega
  have x1 : (q : Int) < (m : Int) := by omega
  clear hs hq hX hmed hm
  refine lay_start ?_
  go_enter Tryz.func43, Tryz.ntmps43
  go_wp2_with (first | (go_at_call 92; with_reducible refine (vl_Values _ _ _ _).mono ?_; rintro e w' ⟨rfl, rfl⟩; rw [show (lay w []).alloc (.cells #[.slice (some ⟨b, o, none⟩) m cap] 41) = lay w [.inl (.cells #[.slice (some ⟨b, o, none⟩) m cap] 41 (0, 0))] from rfl]) | fail)
  have hsz : (lay w [.inl (.cells #[.slice (some ⟨b, o, none⟩) m cap] 41 (0, 0))]).heap.size = w.heap.size + 1 := World.size_alloc _ _
  refine (HS.out (lay w [.inl (.cells #[.slice (some ⟨b, o, none⟩) m cap] 41 (0, 0))]) w.heap.size (by omega) ?_ (HV.out.lay _)).mono ?_
  · have e2 : (lay w [.inl (.cells #[.slice (some ⟨b, o, none⟩) m cap] 41 (0, 0))]).heap[w.heap.size]? = some (.cells #[.slice (some ⟨b, o, none⟩) m cap] 41 (0, 0)) := by show (w.heap.push _)[w.heap.size]? = _; simp
    simp [World.cell?, e2]
  rintro e w' ⟨v, d, rfl, rfl, hv⟩
  obtain ⟨g, c, hve, -, -, -⟩ := hv.form1 (by rw [HL.out]; omega)
  rw [HL.out] at hve
  subst hve
  rw [lay_bw] at hv
  have e1 := fun (A : List (Obj ⊕ Ext)) => (ow_on (A := A) hv).cell (i := q) (by rw [HL.out]; exact HQ.out)
  rw [← HX.out] at e1
  have c2 : ∀ d', (lay w [.inr d', .inr d, .inl (.cells #[.slice (some ⟨b, o, none⟩) m cap] 41 (0, 0))]).cell? ⟨g, q, none⟩ = some (.int .i64 X) := fun d' => e1 [.inr d']
  rw [show bw (lay w [.inl (.cells #[.slice (some ⟨b, o, none⟩) m cap] 41 (0, 0))]) d = lay w [.inr d, .inl (.cells #[.slice (some ⟨b, o, none⟩) m cap] 41 (0, 0))] from rfl]
  clear hv e1 hsz
  go_wp2_with fail
  refine (HLw.out _).mono ?_
  rintro e w' ⟨rfl, d2, rfl⟩
  rw [lay_bw]
  go_wp2_with fail
  go_ret
  exact ⟨rfl, lay_ex _ _⟩
end Go.Proofs.YtmomoeagnkjbiaaGreat
/- average.Line. -/
namespace Go.Proofs.YtmomoeagnkjbiaaGreat
open Go.RowKit

theorem lnE_chk {t h : List Int} (hc : chkE t h ≠ 0) : lnE t h = chkE t h := if_pos hc
theorem ln_bad {t h : List Int} (hc : lnE t h ≠ 0) : lnN t h = 0 ∧ lnD t h = 0 ∧ lnK t h = 0 := ⟨if_neg hc, if_neg hc, if_neg hc⟩
theorem rp_pos {t h : List Int} {i k : Nat} (c : 0 < nth t i - nth t k) : rp t h i k = [mkR (nth h i - nth h k) (nth t i - nth t k)] := if_pos c
theorem rp_neg {t h : List Int} {i k : Nat} (c : nth t i - nth t k < 0) : rp t h i k = [mkR (nth h k - nth h i) (-(nth t i - nth t k))] := by
  unfold rp; rw [if_neg (by omega), if_pos c]
theorem rp_nil {t h : List Int} {i k : Nat} (c1 : ¬ 0 < nth t i - nth t k) (c2 : ¬ nth t i - nth t k < 0) : rp t h i k = [] := by
  unfold rp; rw [if_neg c1, if_neg c2]
/-- What Line answers, case by case. -/
theorem ln_cases (t h : List Int) (c0 : chkE t h = 0) :
    (risAll t h t.length = [] → lnN t h = 0 ∧ lnD t h = 0 ∧ lnK t h = 0 ∧ lnE t h = 12) ∧
    (∀ (l' : List RisB) (x : RisB), l'.Perm (risAll t h t.length) → l'.Pairwise (fun x y => risLe x.1 y.1 = true) → l'[((risAll t h t.length).length - 1) / 2]? = some x →
      ((mkBig (1000 * x.1.h) x.1.t = true ∨ slpB (mkN (1000 * x.1.h) x.1.t) (mkD (1000 * x.1.h) x.1.t) = false) → lnN t h = 0 ∧ lnD t h = 0 ∧ lnK t h = 0 ∧ lnE t h = 5) ∧
      (mkBig (1000 * x.1.h) x.1.t = false → slpB (mkN (1000 * x.1.h) x.1.t) (mkD (1000 * x.1.h) x.1.t) = true → lnN t h = mkN (1000 * x.1.h) x.1.t ∧ lnD t h = mkD (1000 * x.1.h) x.1.t ∧ lnK t h = medI (resK t h (mkN (1000 * x.1.h) x.1.t) (mkD (1000 * x.1.h) x.1.t) t.length) ∧ lnE t h = 0)) := by
  have hE : lnE t h = if risAll t h t.length = [] then 12
      else if mkBig (1000 * (lnP (risAll t h t.length)).h) (lnP (risAll t h t.length)).t = true ∨ slpB (mkN (1000 * (lnP (risAll t h t.length)).h) (lnP (risAll t h t.length)).t) (mkD (1000 * (lnP (risAll t h t.length)).h) (lnP (risAll t h t.length)).t) = false then 5 else 0 := if_neg (fun h => h c0)
  refine ⟨fun h0 => ?_, fun l' x hp hs hx => ?_⟩
  · have e : lnE t h = 12 := by rw [hE, if_pos h0]
    obtain ⟨n1, n2, n3⟩ := ln_bad (t := t) (h := h) (by rw [e]; decide)
    exact ⟨n1, n2, n3, e⟩
  · have hne : risAll t h t.length ≠ [] := by
      intro e
      rw [e] at hp
      rw [hp.eq_nil] at hx
      simp at hx
    obtain ⟨k1, k2, k3⟩ := lnP_any hp hs hx
    rw [if_neg hne, ← k1, ← k2, ← k3] at hE
    refine ⟨fun hc => ?_, fun c1 c2 => ?_⟩
    · have e : lnE t h = 5 := by rw [hE, if_pos hc]
      obtain ⟨n1, n2, n3⟩ := ln_bad (t := t) (h := h) (by rw [e]; decide)
      exact ⟨n1, n2, n3, e⟩
    · have e : lnE t h = 0 := by rw [hE, if_neg (by rw [c1, c2]; decide)]
      have a1 : lnN t h = mkN (1000 * x.1.h) x.1.t := by unfold lnN; rw [if_pos e, k1]
      have a2 : lnD t h = mkD (1000 * x.1.h) x.1.t := by unfold lnD; rw [if_pos e, k2]
      refine ⟨a1, a2, ?_, e⟩
      unfold lnK
      rw [if_pos e, a1, a2]
set_option maxHeartbeats 4000000 in
set_option maxRecDepth 100000 in
theorem av_Line (vt vh : Value) (t h : List Int) (w : World) (ht : Sl w vt t) (hh : Sl w vh h) :
    Calls Tryz.prog 17 #[vt, vh] w fun e w' => e = .returned (.tuple #[(.agg #[.int .i64 (lnN t h), .int .i64 (lnD t h)]), .int .i64 (lnK t h), .int .i64 (lnE t h)]) ∧ ∃ d, w' = bw w d := by
  have HC := Lib.hid (fun W (q1 : Sl W vt t) (q2 : Sl W vh h) => av_check vt vh t h W q1 q2)
  have HT := Lib.hid ht
  have HH := Lib.hid hh
  by_cases c0 : chkE t h = 0
  · obtain ⟨hl, h1, hn, bt, bh⟩ := chk_bd c0
    rw [c0] at HC
    have HB := Lib.hid (And.intro bt bh)
    have HLl := Lib.hid (risAll_len t h t.length)
    have HF := Lib.hid (ln_cases t h c0)
    have HAs := Lib.hid (fun i => show risAll t h (i + 1) = risAll t h i ++ risRow t h i i from rfl)
    obtain ⟨b, o, cap, rfl, hc, -, hbs, hr⟩ := ht.open (by omega)
    obtain ⟨b2, o2, cap2, rfl, hc2, -, hbs2, hr2⟩ := hh.open (by omega)
    have HRs := Lib.hid (fun W v1 v2 n d (q1 : Sl W v1 t) (q2 : Sl W v2 h) hs => av_residuals v1 v2 t h n d W q1 q2 hl h1 (by omega) (fun i hi => by have := bt i hi; omega) (fun i hi => by have := bh i hi; omega) hs)
    rw [← hl] at hr2 hc2 HH HC ⊢
    obtain ⟨m, hm⟩ : ∃ m, t.length = m := ⟨_, rfl⟩
    have hml : h.length = m := by omega
    have HM := Lib.hid (And.intro hm hml)
    rw [hm] at hr hr2 hc hc2 h1 hn HT HH HC HLl HRs HF ⊢
    obtain ⟨eN, hN⟩ : ∃ z, lnN t h = z := ⟨_, rfl⟩
    obtain ⟨eD, hD⟩ : ∃ z, lnD t h = z := ⟨_, rfl⟩
    obtain ⟨eK, hK⟩ : ∃ z, lnK t h = z := ⟨_, rfl⟩
    obtain ⟨eE, hE⟩ : ∃ z, lnE t h = z := ⟨_, rfl⟩
    rw [hN, hD, hK, hE] at HF ⊢
    have HTc := Lib.hid hr
    have HHc := Lib.hid hr2
    clear hr hr2 hm hl ht hh bt bh c0 hml hN hD hK hE
    refine lay_start ?_
    go_enter Tryz.func17, Tryz.ntmps17
    go_wp2_with (go_at_call 38; refine (HC.out _ (HT.out.lay _) (HH.out.lay _)).mono ?_; rintro e w' ⟨rfl, dA, rfl⟩)
    go_loopw [8, 24] (fun v8 v24 wr => ∃ (i : Nat) (dd : Ext), i ≤ m ∧ v24 = .int .i64 (i : Int) ∧ wr = lay w [.inr dd, .inl (.cells #[.int .i64 0, .int .i64 0] 26 (0, 0))] ∧ OwG riR (lay w [.inr dd, .inl (.cells #[.int .i64 0, .int .i64 0] 26 (0, 0))]) (lay w [.inl (.cells #[.int .i64 0, .int .i64 0] 26 (0, 0))]).heap.size v8 (risAll t h i)) (fun _ v24 _ => m - (intOf v24).toNat)
    case atStart => exact ⟨0, dA, Nat.zero_le _, rfl, rfl, OwG.nil _ _ _⟩
    case round =>
      obtain ⟨i, dd, hi, rfl, rfl, hO⟩ := hrel
      have HO := Lib.hid hO
      clear hO
      by_cases hlt : i < m
      · have x1 : (i : Int) < (m : Int) := by omega
        go_wp2_with fail
        go_loopw [8, 28] (fun v8 v28 wr => ∃ (k : Nat) (dd : Ext), k ≤ i ∧ v28 = .int .i64 (k : Int) ∧ wr = lay w [.inr dd, .inl (.cells #[.int .i64 0, .int .i64 0] 26 (0, 0))] ∧ OwG riR (lay w [.inr dd, .inl (.cells #[.int .i64 0, .int .i64 0] 26 (0, 0))]) (lay w [.inl (.cells #[.int .i64 0, .int .i64 0] 26 (0, 0))]).heap.size v8 (risAll t h i ++ risRow t h i k)) (fun _ v28 _ => i - (intOf v28).toNat)
        case atStart => exact ⟨0, dd, Nat.zero_le _, rfl, rfl, by rw [show risRow t h i 0 = [] from rfl, List.append_nil]; exact HO.out⟩
        case round =>
          obtain ⟨k, d2, hk, rfl, rfl, hO2⟩ := hrel
          have HO2 := Lib.hid hO2
          clear hO2
          by_cases hlt2 : k < i
          · have e1 := HTc.out i hlt
            have e2 := HTc.out k (by omega)
            have f1 := HHc.out i hlt
            have f2 := HHc.out k (by omega)
            have bd1 := HB.out.1 i (by rw [HM.out.1]; exact hlt)
            have bd2 := HB.out.1 k (by rw [HM.out.1]; omega)
            have bd3 := HB.out.2 i (by rw [HM.out.2]; exact hlt)
            have bd4 := HB.out.2 k (by rw [HM.out.2]; omega)
            have y0 : (0 : Int) ≤ (i : Int) := by omega
            have y1 : (0 : Int) ≤ (k : Int) := by omega
            have y2 : (k : Int) < (i : Int) := by omega
            have y3 : (k : Int) < (m : Int) := by omega
            have hlen : (risAll t h i ++ risRow t h i k).length ≤ 1000000000 := by
              rw [List.length_append]
              have l1 := risAll_len t h i
              have l2 := risRow_len t h i k
              have l3 : i * i ≤ 1000 * 1000 := Nat.mul_le_mul (by omega) (by omega)
              omega
            have HST := Lib.hid (show risAll t h i ++ risRow t h i (k + 1) = (risAll t h i ++ risRow t h i k) ++ rp t h i k by rw [List.append_assoc]; rfl)
            have HRP : Hid (rp t h i k = if 0 < nth t i - nth t k then [mkR (nth h i - nth h k) (nth t i - nth t k)] else if nth t i - nth t k < 0 then [mkR (nth h k - nth h i) (-(nth t i - nth t k))] else []) := Lib.hid rfl
            generalize rp t h i k = RP at *
            generalize risAll t h i ++ risRow t h i k = L at *
            generalize nth t i = ti at *
            generalize nth t k = tk at *
            generalize nth h i = hi' at *
            generalize nth h k = hk' at *
            have w1 : IntKind.i64.wrap (ti - tk) = ti - tk := IntWalk.i64_in _ (by omega)
            have w2 : IntKind.i64.wrap (hi' - hk') = hi' - hk' := IntWalk.i64_in _ (by omega)
            have w3 : IntKind.i64.wrap (hk' - hi') = hk' - hi' := IntWalk.i64_in _ (by omega)
            have w4 : IntKind.i64.wrap (-(ti - tk)) = -(ti - tk) := IntWalk.i64_in _ (by omega)
            obtain ⟨D, hD⟩ : ∃ D, ti - tk = D := ⟨_, rfl⟩
            rw [hD] at HRP w4
            have w1' : IntKind.i64.wrap (ti - tk) = D := w1.trans hD
            have hDb : -172800000 ≤ D ∧ D ≤ 172800000 := by omega
            clear w1 hD
            by_cases c1 : 0 < D
            · have c1' := decide_eq_true c1
              rw [if_pos c1] at HRP
              go_wp2_with fail
              refine region_bw (by kernel_rfl) (by kernel_rfl) ?_
              repeat (go_big_quiet_step ((first | fail)))
              refine wpQuiet_nil ?_
              rintro w' ⟨d, rfl⟩
              rw [lay_bw]
              obtain ⟨d3, e3⟩ : ∃ x, lay w [.inr d, .inr d2, .inl (.cells #[.int .i64 0, .int .i64 0] 26 (0, 0))] = lay w [.inr x, .inl (.cells #[.int .i64 0, .int .i64 0] 26 (0, 0))] := ⟨_, bw_bw _ _ _⟩
              have HO3 := Lib.hid (owG_on (A := [.inr d]) HO2.out)
              change Hid (OwG riR (lay w [.inr d, .inr d2, .inl (.cells #[.int .i64 0, .int .i64 0] 26 (0, 0))]) _ _ L) at HO3
              rw [e3] at HO3 ⊢
              clear e3
              go_wp2_with fail
              refine region_mixT 13 [0, 0, 0, 0, 0, 0, 0, 0, 0, 0, 0, 0, 1] (by kernel_rfl) (by kernel_rfl) (by kernel_rfl) (by kernel_rfl) (by simp) (by kernel_rfl) ?_
              simp only [List.take_succ_cons, List.take_zero, List.drop_succ_cons, List.drop_zero]
              repeat (first | (refine wpM_quiet (fun K hK => ?_); go_simp; first | (refine hK _ ?_; clear hK K) | (apply Exists.intro; refine ⟨fun _ => ?_, hK _ ?_⟩; (first | fail); clear hK K)) | (refine wpM_special (fun K hK d => ?_); go_simp; refine hK _ _ (by first | exact lay_in w [_] _ | exact lay_in w [_, _] _ | exact lay_in w [_, _, _] _ | exact lay_in w [_, _, _, _] _ | exact lay_in w [_, _, _, _, _] _ | exact lay_in w [_, _, _, _, _, _] _) ?_; clear hK K))
              refine wpM_nil ?_
              intro d1
              rw [lay_bw]
              refine push_rec riOk rfl _ _ rfl (lay w [.inl (.cells #[.int .i64 0, .int .i64 0] 26 (0, 0))]) _ (mkR (hi' - hk') (D)) #[.int .i64 (hi' - hk'), .int .i64 (D)] 83 _ _ L ?_ (owG_on (A := [_, _, _]) HO3.out) ?_ (by show [_, _] = [Value.int .i64 (mkR _ _).1.h, Value.int .i64 (mkR _ _).1.t]; rw [mkR_h (by omega)]) rfl rfl hlen trivial ?_
              · exact lay_belowG (A := [_, _, _, _])
              · exact lay_get w _ 1 _ rfl
              intro v' d' hv'
              have HV := Lib.hid hv'
              clear hv'
              go_wp2_with fail
              go_roundw
              case rel => exact ⟨k + 1, d', hlt2, by go_num, rfl, by rw [HST.out, HRP.out]; exact HV.out⟩
              case measure => simp [intOf]; omega
            · have c1' := decide_eq_false c1
              rw [if_neg c1] at HRP
              by_cases c2 : D < 0
              · have c2' := decide_eq_true c2
                rw [if_pos c2] at HRP
                go_wp2_with fail
                refine region_bw (by kernel_rfl) (by kernel_rfl) ?_
                repeat (go_big_quiet_step ((first | fail)))
                refine wpQuiet_nil ?_
                rintro w' ⟨d, rfl⟩
                rw [lay_bw]
                obtain ⟨d3, e3⟩ : ∃ x, lay w [.inr d, .inr d2, .inl (.cells #[.int .i64 0, .int .i64 0] 26 (0, 0))] = lay w [.inr x, .inl (.cells #[.int .i64 0, .int .i64 0] 26 (0, 0))] := ⟨_, bw_bw _ _ _⟩
                have HO3 := Lib.hid (owG_on (A := [.inr d]) HO2.out)
                change Hid (OwG riR (lay w [.inr d, .inr d2, .inl (.cells #[.int .i64 0, .int .i64 0] 26 (0, 0))]) _ _ L) at HO3
                rw [e3] at HO3 ⊢
                clear e3
                go_wp2_with fail
                refine region_mixT 14 [0, 0, 0, 0, 0, 0, 0, 0, 0, 0, 0, 0, 0, 1] (by kernel_rfl) (by kernel_rfl) (by kernel_rfl) (by kernel_rfl) (by simp) (by kernel_rfl) ?_
                simp only [List.take_succ_cons, List.take_zero, List.drop_succ_cons, List.drop_zero]
                repeat (first | (refine wpM_quiet (fun K hK => ?_); go_simp; first | (refine hK _ ?_; clear hK K) | (apply Exists.intro; refine ⟨fun _ => ?_, hK _ ?_⟩; (first | fail); clear hK K)) | (refine wpM_special (fun K hK d => ?_); go_simp; refine hK _ _ (by first | exact lay_in w [_] _ | exact lay_in w [_, _] _ | exact lay_in w [_, _, _] _ | exact lay_in w [_, _, _, _] _ | exact lay_in w [_, _, _, _, _] _ | exact lay_in w [_, _, _, _, _, _] _) ?_; clear hK K))
                refine wpM_nil ?_
                intro d1
                rw [lay_bw]
                refine push_rec riOk rfl _ _ rfl (lay w [.inl (.cells #[.int .i64 0, .int .i64 0] 26 (0, 0))]) _ (mkR (hk' - hi') (-D)) #[.int .i64 (hk' - hi'), .int .i64 (-D)] 83 _ _ L ?_ (owG_on (A := [_, _, _]) HO3.out) ?_ (by show [_, _] = [Value.int .i64 (mkR _ _).1.h, Value.int .i64 (mkR _ _).1.t]; rw [mkR_h (by omega)]) rfl rfl hlen trivial ?_
                · exact lay_belowG (A := [_, _, _, _])
                · exact lay_get w _ 1 _ rfl
                intro v' d' hv'
                have HV := Lib.hid hv'
                clear hv'
                go_wp2_with fail
                go_roundw
                case rel => exact ⟨k + 1, d', hlt2, by go_num, rfl, by rw [HST.out, HRP.out]; exact HV.out⟩
                case measure => simp [intOf]; omega
              · have c2' := decide_eq_false c2
                rw [if_neg c2] at HRP
                go_wp2_with fail
                refine region_bw (by kernel_rfl) (by kernel_rfl) ?_
                repeat (go_big_quiet_step ((first | fail)))
                refine wpQuiet_nil ?_
                rintro w' ⟨d, rfl⟩
                rw [lay_bw]
                obtain ⟨d3, e3⟩ : ∃ x, lay w [.inr d, .inr d2, .inl (.cells #[.int .i64 0, .int .i64 0] 26 (0, 0))] = lay w [.inr x, .inl (.cells #[.int .i64 0, .int .i64 0] 26 (0, 0))] := ⟨_, bw_bw _ _ _⟩
                have HO3 := Lib.hid (owG_on (A := [.inr d]) HO2.out)
                change Hid (OwG riR (lay w [.inr d, .inr d2, .inl (.cells #[.int .i64 0, .int .i64 0] 26 (0, 0))]) _ _ L) at HO3
                rw [e3] at HO3 ⊢
                clear e3
                go_wp2_with fail
                go_roundw
                case rel => exact ⟨k + 1, d3, hlt2, by go_num, rfl, by rw [HST.out, HRP.out, List.append_nil]; exact HO3.out⟩
                case measure => simp [intOf]; omega
          · obtain rfl : k = i := by omega
            have HST := HAs.out k
            rw [← HST] at HO2
            clear HST
            have x3 : ¬ (k : Int) < (k : Int) := by omega
            go_wp2_with fail
            go_roundw
            case rel => exact ⟨k + 1, d2, by omega, by go_num, rfl, HO2.out⟩
            case measure => simp [intOf]; omega
      · obtain rfl : i = m := by omega
        have x2 : ¬ (i : Int) < (i : Int) := by omega
        have hb : i * i ≤ 1000 * 1000 := Nat.mul_le_mul hn hn
        obtain ⟨q, hq⟩ : ∃ q, (risAll t h i).length = q := ⟨_, rfl⟩
        have hqb : q ≤ 1000000 := by rw [← hq]; have := HLl.out; omega
        rw [hq] at HF
        have HQ := Lib.hid hq
        clear HAs HB HTc HHc hb HLl
        by_cases hq0 : q = 0
        · subst hq0
          obtain ⟨a, cp, hv8⟩ := HO.out.form
          rw [HQ.out] at hv8
          subst hv8
          obtain ⟨r1, r2, r3, r4⟩ := HF.out.1 (List.eq_nil_of_length_eq_zero HQ.out)
          subst r1 r2 r3 r4
          go_wp2_with fail
          exact bodyPost_ret (v := .tuple #[(.agg #[.int .i64 (0), .int .i64 (0)]), .int .i64 0, .int .i64 12]) (by simp [results, Tryz.results17, go_sem]) rfl ⟨rfl, lay_ex _ _⟩
        · obtain ⟨g, cp, hv8, hg1, hg2, hg3⟩ := HO.out.form1 (by rw [HQ.out]; omega)
          rw [HQ.out] at hv8 hg3
          subst hv8
          have HSo := Lib.hid (av_sort _ _ _ _ (lay_belowG (A := [.inr dd]) (B := [.inl (.cells #[.int .i64 0, .int .i64 0] 26 (0, 0))])) HO.out (by rw [HQ.out]; omega) (by rw [HQ.out]; omega))
          change Hid (Calls _ _ _ (lay w [.inr dd, .inl (.cells #[.int .i64 0, .int .i64 0] 26 (0, 0))]) _) at HSo
          have z1 : ((q : Int) == 0) = false := beq_eq_false_iff_ne.2 (by omega)
          obtain ⟨lo, hlo⟩ : ∃ lo, (q - 1) / 2 = lo := ⟨_, rfl⟩
          have HLw := Lib.hid (fun W => av_lower q W (by omega) hqb)
          rw [hlo] at HLw HF
          have hlq : lo < q := by omega
          clear HO hlo
          go_wp2_with (go_at_call 39; refine HSo.out.mono ?_; rintro e w' ⟨rfl, d2, L', rfl, hp, hs, hO2⟩)
          obtain ⟨x, hx⟩ : ∃ x, L'[lo]? = some x := ⟨_, List.getElem?_eq_getElem (by rw [hp.length_eq, HQ.out]; exact hlq)⟩
          have HC2 := Lib.hid (HF.out.2 L' x hp hs hx)
          change OwG riR (lay w [.inr d2, .inl (.cells #[.int .i64 0, .int .i64 0] 26 (0, 0))]) _ _ _ at hO2
          have g1 := fun d' => (owG_on (A := [.inr d']) hO2).cell riOk hx (j := 0) rfl
          have g2 := fun d' => (owG_on (A := [.inr d']) hO2).cell riOk hx (j := 1) rfl
          have hxb := x.2
          obtain ⟨xh, hxh⟩ : ∃ xh, x.1.h = xh := ⟨_, rfl⟩
          obtain ⟨xt, hxt⟩ : ∃ xt, x.1.t = xt := ⟨_, rfl⟩
          rw [hxh, hxt] at HC2 hxb
          have g1' : ∀ d', (lay w [.inr d', .inr d2, .inl (.cells #[.int .i64 0, .int .i64 0] 26 (0, 0))]).cell? ⟨g, lo * 2, none⟩ = some (.int .i64 xh) := fun d' => by rw [← hxh]; exact g1 d'
          have g2' : ∀ d', (lay w [.inr d', .inr d2, .inl (.cells #[.int .i64 0, .int .i64 0] 26 (0, 0))]).cell? ⟨g, lo * 2 + 1, none⟩ = some (.int .i64 xt) := fun d' => by rw [← hxt]; exact g2 d'
          have HMk := Lib.hid (fun W => rt_Make (1000 * xh) xt W (by omega) (by omega))
          have eMk : mkE (1000 * xh) xt = if mkBig (1000 * xh) xt = true then 5 else 0 := if_neg (by omega)
          have u1 : IntKind.i64.wrap (1000 * xh) = 1000 * xh := IntWalk.i64_in _ (by omega)
          have u2 : (0 : Int) ≤ (lo : Int) := by omega
          have u3 : (lo : Int) < (q : Int) := by omega
          have hxt1 : 1 ≤ xt := by omega
          clear hp hs hx hxb hxh hxt g1 g2 hO2 HSo HF
          refine (HLw.out _).mono ?_
          rintro e w' ⟨rfl, d3, rfl⟩
          rw [lay_bw]
          cases hbig : mkBig (1000 * xh) xt
          · have HOk := Lib.hid (mk_ok hxt1 hbig)
            rw [hbig, if_neg (by decide)] at eMk
            unfold mkNN mkDD at HMk
            rw [eMk, if_pos rfl, if_pos rfl] at HMk
            have HSl := Lib.hid (fun W => av_slopes _ _ W HOk.out)
            have HC3 := Lib.hid (HC2.out.2 hbig)
            have HC4 := Lib.hid (fun hh => HC2.out.1 (.inr hh))
            clear hbig eMk HC2
            generalize mkN (1000 * xh) xt = N at *
            generalize mkD (1000 * xh) xt = Dn at *
            cases hsl : slpB N Dn
            · rw [hsl] at HSl
              obtain ⟨r1, r2, r3, r4⟩ := HC4.out hsl
              subst r1 r2 r3 r4
              clear hsl HC3 HC4
              go_wp2_with (first | (go_at_call 32; refine (HMk.out _).mono ?_; rintro e w' ⟨rfl, d4, rfl⟩) | (go_at_call 42; refine (HSl.out _).mono ?_; rintro e w' ⟨rfl, d5, rfl⟩))
              exact bodyPost_ret (v := .tuple #[(.agg #[.int .i64 (0), .int .i64 (0)]), .int .i64 0, .int .i64 5]) (by simp [results, Tryz.results17, go_sem]) rfl ⟨rfl, lay_ex _ _⟩
            · rw [hsl] at HSl
              obtain ⟨r1, r2, r3, r4⟩ := HC3.out hsl
              subst r1 r2 r4
              clear hsl HC3 HC4
              go_wp2_with (first | (go_at_call 32; refine (HMk.out _).mono ?_; rintro e w' ⟨rfl, d4, rfl⟩) | (go_at_call 42; refine (HSl.out _).mono ?_; rintro e w' ⟨rfl, d5, rfl⟩))
              have HMd := Lib.hid (fun v W q => av_median v (resK t h eN eD i) W q (by rw [resK_len]; exact h1) (by rw [resK_len]; omega))
              rw [← r3] at HMd
              clear r3
              refine region_mixS 6 [(0, 0), (1, 2), (2, 2), (3, 1), (4, 1), (5, 1), (6, 3), (7, 2), (8, 2)] (by kernel_rfl) (by kernel_rfl) (by kernel_rfl) rfl ?_
              repeat (first | (refine wpMS_pure rfl (fun K hK => ?_); go_simp; refine hK _ ?_; clear hK K) | (refine wpMS_quiet rfl (fun K hK => ?_); go_simp; first | (refine hK _ ?_; clear hK K) | (apply Exists.intro; refine ⟨fun _ => ?_, hK _ ?_⟩; (first | fail); clear hK K)))
              refine wpMS_special rfl (fun K hK e1 => ?_)
              go_simp
              refine hK _ _ ⟨_, rfl⟩ ?_
              clear hK K
              refine wpMS_special rfl (fun K hK e2 => ?_)
              go_simp
              refine (HRs.out _ _ _ _ _ (HT.out.lay _) (HH.out.lay _) HOk.out).mono ?_
              rintro e w' ⟨v, d6, rfl, rfl, hv⟩
              refine ⟨_, rfl, ?_⟩
              rw [lay_bw] at hv ⊢
              have HV := Lib.hid (fun e3 => hv.sl.bw e3)
              clear hv
              refine hK _ _ (lay_in w [_, _, _] _) ?_
              clear hK K
              refine wpMS_special rfl (fun K hK e3 => ?_)
              rw [lay_bw]
              go_simp
              refine (HMd.out v _ (HV.out e3)).mono ?_
              rintro e w' ⟨rfl, d7, rfl⟩
              refine ⟨_, rfl, ?_⟩
              rw [lay_bw, lay_bw]
              refine hK _ _ (lay_in w [_, _, _, _, _] _) ?_
              clear hK K
              refine wpMS_store rfl (fun K hK e4 => ?_)
              rw [lay_bw]
              go_simp
              refine hK _ _ ?_
              clear hK K
              repeat (first | (refine wpMS_pure rfl (fun K hK => ?_); go_simp; refine hK _ ?_; clear hK K) | (refine wpMS_quiet rfl (fun K hK => ?_); go_simp; first | (refine hK _ ?_; clear hK K) | (apply Exists.intro; refine ⟨fun _ => ?_, hK _ ?_⟩; (first | fail); clear hK K)))
              refine wpMS_nil ?_
              intro d9
              rw [lay_bw]
              go_wp2_with fail
              exact bodyPost_ret (v := .tuple #[(.agg #[.int .i64 (eN), .int .i64 (eD)]), .int .i64 eK, .int .i64 0]) (by simp [results, Tryz.results17, go_sem]) rfl ⟨rfl, lay_ex _ _⟩
          · rw [hbig, if_pos rfl] at eMk
            unfold mkNN mkDD at HMk
            rw [eMk, if_neg (by decide), if_neg (by decide)] at HMk
            obtain ⟨r1, r2, r3, r4⟩ := HC2.out.1 (.inl hbig)
            subst r1 r2 r3 r4
            clear HC2 hbig eMk
            go_wp2_with (go_at_call 32; refine (HMk.out _).mono ?_; rintro e w' ⟨rfl, d4, rfl⟩)
            exact bodyPost_ret (v := .tuple #[(.agg #[.int .i64 (0), .int .i64 (0)]), .int .i64 0, .int .i64 5]) (by simp [results, Tryz.results17, go_sem]) rfl ⟨rfl, lay_ex _ _⟩
  · have hE := lnE_chk c0
    obtain ⟨n1, n2, n3⟩ := ln_bad (t := t) (h := h) (by rw [hE]; exact c0)
    rw [n1, n2, n3, hE]
    obtain ⟨a1, c1, rfl, -⟩ := ht
    obtain ⟨a2, c2, rfl, -⟩ := hh
    have t1 : (chkE t h == 0) = false := beq_eq_false_iff_ne.2 c0
    have t2 : (chkE t h != 0) = true := by rw [bne, t1]; rfl
    clear hE n1 n2 n3
    generalize chkE t h = E at *
    refine lay_start ?_
    go_enter Tryz.func17, Tryz.ntmps17
    go_wp2_with (go_at_call 38; refine (HC.out _ (HT.out.lay _) (HH.out.lay _)).mono ?_; rintro e w' ⟨rfl, dA, rfl⟩)
    exact bodyPost_ret (v := .tuple #[(.agg #[.int .i64 (0), .int .i64 (0)]), .int .i64 0, .int .i64 E]) (by simp [results, Tryz.results17, go_sem]) rfl ⟨rfl, lay_ex _ _⟩
end Go.Proofs.YtmomoeagnkjbiaaGreat
