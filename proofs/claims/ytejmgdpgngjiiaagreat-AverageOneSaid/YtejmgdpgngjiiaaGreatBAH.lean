/- Contracts and plain laws, several texts in one: Va3; Va4; Shl; Va5 -/
import Derived.Test.YtejmgdpgngjiiaaGreatProg
import Derived.WalkKit
import Derived.WalkSpells
import Derived.WalkLawsBesides
import Derived.Lib.Hide
import Derived.BigQuiet
import Derived.Sort.OwnSortedInts
import Derived.Test.YtejmgdpgngjiiaaGreatBAA
import Derived.Test.YtejmgdpgngjiiaaGreatBAB
import Derived.Test.YtejmgdpgngjiiaaGreatBAC
import Derived.Test.YtejmgdpgngjiiaaGreatBAD
import Derived.Test.YtejmgdpgngjiiaaGreatBAG
/- slices.Collect of slices.Values at ints. -/
namespace Go.Proofs.YtejmgdpgngjiiaaGreat
open Go.RowKit Go.Shelf
attribute [local go_sem] Oper.semAt_some

set_option maxHeartbeats 1000000 in
theorem vl_collect (F : Fence) (n : Nat) (hC : F.fn 137) (hA : F.fn 167) (hV1 : F.fn 139) (hro : F.round = none) (hn : 4 ≤ n) (Bs : Nat) (sv : Value) (zs : List Int) (hlen : zs.length ≤ 1000000000) (w : World) (hBs : Bs < w.heap.size)
    (hc : w.cell? ⟨Bs, 0, none⟩ = some sv) (hI : IntsV w.heap.size w sv zs) :
    CallsIn F n Tryz.prog 137 #[.func (.func 139) #[] #[.pointer (some ⟨Bs, 0, none⟩)]] w fun e W' => ∃ v, e = .returned v ∧ W'.ownsRow w.heap.size 3 1 v zs.length (zs.map (Value.int .i64)) ∧ Below w.heap.size w W' := by
  have h1 : 1 ≤ n := by omega
  refine callsIn_of_wp Tryz.func137 rfl hC ?_ hro
  simp only [Tryz.ntmps137, List.size_toArray, List.length_cons, List.length_nil, Nat.reduceAdd, Nat.reduceSub, Array.replicate_succ, Array.replicate_zero, List.push_toArray, List.append_toArray, List.nil_append, List.cons_append]
  gi_wp2_with (gi_at_call 167; refine (vl_append F (n - 1) hA hV1 hro (by omega) Bs sv zs hlen _ hBs hc hI).mono ?_; rintro e w' ⟨v, rfl, hrow, hb⟩)
  go_ret
  exact ⟨v, rfl, hrow, hb⟩
end Go.Proofs.YtejmgdpgngjiiaaGreat
/- slices.Values and Collect, with no fence. -/
namespace Go.Proofs.YtejmgdpgngjiiaaGreat
open Go.RowKit Go.Shelf

/-- A fence of all functions. -/
def allF : Fence := { fn := fun _ => True }
theorem vl_Values (a : Option Addr) (len cap : Nat) (w : World) :
    Calls Tryz.prog 87 #[.slice a len cap] w fun e w' => e = .returned (.func (.func 139) #[] #[.pointer (some ⟨w.heap.size, 0, none⟩)]) ∧ w' = w.alloc (.cells #[.slice a len cap] 22) :=
  (vl_values_in allF 1 trivial rfl a len cap w).calls (fun k => by simp [Fence.room, allF])
theorem vl_Collect (Bs : Nat) (sv : Value) (zs : List Int) (hlen : zs.length ≤ 1000000000) (w : World) (hBs : Bs < w.heap.size) (hc : w.cell? ⟨Bs, 0, none⟩ = some sv) (hI : IntsV w.heap.size w sv zs) :
    Calls Tryz.prog 137 #[.func (.func 139) #[] #[.pointer (some ⟨Bs, 0, none⟩)]] w fun e W' => ∃ v, e = .returned v ∧ W'.ownsRow w.heap.size 3 1 v zs.length (zs.map (Value.int .i64)) ∧ Below w.heap.size w W' :=
  (vl_collect allF 4 trivial trivial trivial rfl (by omega) Bs sv zs hlen w hBs hc hI).calls (fun k => by simp [Fence.room, allF])
end Go.Proofs.YtejmgdpgngjiiaaGreat
/- The library's slice functions at ints, over slices that read and rows of the call's own. -/
namespace Go.Proofs.YtejmgdpgngjiiaaGreat
open Go.RowKit Go.Sort

/-- The call returns a row of its own that holds these ints, in a world that extends the one before. -/
def Rw (w : World) (l : List Int) (e : Ending) (w' : World) : Prop := ∃ v d, e = .returned v ∧ w' = bw w d ∧ Ow (bw w d) w.heap.size v l
theorem bw_drewN (w : World) (q : Nat) : ∃ d, w.drewN q = bw w d := ⟨⟨#[], w.drawn + q⟩, by
  show w.drewN q = { w with heap := w.heap ++ #[], drawn := w.drawn + q }
  rw [Array.append_empty]; rfl⟩
theorem sl_Contains (v : Value) (l : List Int) (x : Int) (w : World) (h : Sl w v l) :
    Calls Tryz.prog 27 #[v, .int .i64 x] w fun e w' => e = .returned (.bool (l.contains x)) ∧ w' = w := by
  by_cases hl : l = []
  · subst hl
    obtain ⟨a, cap, rfl, -⟩ := h
    exact (Tryz.slices_Contains_int_empty a cap x w).mono fun e w' ⟨h1, h2⟩ => ⟨h1, h2⟩
  · obtain ⟨b, o, cap, rfl, hc, _, _, hr⟩ := h.open (List.length_pos_iff.2 hl)
    have := Tryz.slices_Contains_int b o l.length cap l x w (Nat.le_refl _) (by omega) hr
    rw [List.take_length] at this
    exact this
theorem sl_Equal (v1 v2 : Value) (l1 l2 : List Int) (w : World) (h1 : Sl w v1 l1) (h2 : Sl w v2 l2) :
    Calls Tryz.prog 16 #[v1, v2] w fun e w' => e = .returned (.bool (decide (l1 = l2))) ∧ ∃ d, w' = bw w d := by
  have hn : ∃ d, w = bw w d := lay_ex w []
  by_cases hl : l1 = []
  · subst hl
    obtain ⟨a, cap, rfl, -⟩ := h1
    obtain ⟨a2, cap2, rfl, hc2, -⟩ := h2
    refine (Tryz.slices_Equal_int_empty a a2 cap l2.length cap2 w (by omega)).mono fun e w' ⟨h1, h2⟩ => ⟨?_, by rw [h2]; exact hn⟩
    rw [h1]
    refine ret_bool ?_
    rw [Bool.eq_iff_iff]; simp only [decide_eq_true_eq]
    constructor
    · intro h; exact (List.eq_nil_of_length_eq_zero h).symm
    · intro h; rw [← h]; rfl
  · by_cases hlen : l1.length = l2.length
    · have h0 : 0 < l1.length := List.length_pos_iff.2 hl
      obtain ⟨b, o, cap, rfl, hc, _, _, hr⟩ := h1.open h0
      obtain ⟨b2, o2, cap2, rfl, hc2, _, _, hr2⟩ := h2.open (by omega)
      have := Tryz.slices_Equal_int b o l1.length cap b2 o2 l2.length cap2 l1 l2 w (Nat.le_refl _) (Nat.le_refl _) (by omega) (by omega) hr hr2
      rw [List.take_length, List.take_length] at this
      refine this.mono fun e w' ⟨h1, q, h2⟩ => ⟨?_, by rw [h2]; exact bw_drewN w q⟩
      rw [h1]
      exact ret_bool (by rw [Bool.eq_iff_iff]; simp)
    · obtain ⟨a, cap, rfl, hc, -⟩ := h1
      obtain ⟨a2, cap2, rfl, hc2, -⟩ := h2
      refine (Tryz.slices_Equal_int_lens a a2 l1.length cap l2.length cap2 w hlen).mono fun e w' ⟨h1, h2⟩ => ⟨?_, by rw [h2]; exact hn⟩
      rw [h1]
      exact ret_bool (by rw [Bool.eq_iff_iff]; simp; intro h; exact absurd (by rw [h]) hlen)
def srt (l : List Int) : List Int := l.mergeSort fun x y => decide (x ≤ y)
theorem srt_len (l : List Int) : (srt l).length = l.length := List.length_mergeSort l
theorem mem_srt {l : List Int} {x : Int} : x ∈ srt l ↔ x ∈ l := List.mem_mergeSort
theorem wf_of_mem {l m : List Int} (h : ∀ i, i < l.length → (Lit.int .i64 (nth l i)).wf = true) (hm : ∀ x, x ∈ m → x ∈ l) : ∀ i, i < m.length → (Lit.int .i64 (nth m i)).wf = true := by
  intro i hi
  have h1 : nth m i ∈ m := by unfold nth; simp [List.getD, hi]
  obtain ⟨j, hj, e⟩ := List.getElem_of_mem (hm _ h1)
  have := h j hj
  rw [show nth l j = l[j] by unfold nth; simp [List.getD, hj], e] at this
  exact this
/-- A row that is written over by as many ints. -/
theorem row_put {w : World} {base g cap : Nat} {l ts : List Int} {q : Nat} {os : Array Obj} (h : Ow w base (.slice (some ⟨g, 0, none⟩) l.length cap) l) (hl : ts.length = l.length) (hw : ∀ i, i < ts.length → (Lit.int .i64 (nth ts i)).wf = true) :
    Ow (grow (putRow (Value.int .i64) (Sort.ahead w q) g 0 ts.toArray) os) base (.slice (some ⟨g, 0, none⟩) l.length cap) ts ∧ w.grownBy (grow (putRow (Value.int .i64) (Sort.ahead w q) g 0 ts.toArray) os) (some g) := by
  rcases h.1.2 with ⟨h', _⟩ | ⟨g', cap', cur, h', hb, hg, hnc, hcm, hcs, htake⟩
  · cases h'
  · cases h'
    refine ⟨⟨?_, hw⟩, grownBy_sortedI _⟩
    have := ownsRow_sortedI (os := os) (n := q) hl hb hg hnc hcm hcs
    rw [hl]; exact this
theorem holds_row {w : World} {base g cap : Nat} {l : List Int} (h : Ow w base (.slice (some ⟨g, 0, none⟩) l.length cap) l) : Holds (Value.int .i64) w g 0 l.toArray := by
  rcases h.1.2 with ⟨h', _⟩ | ⟨g', cap', cur, h', hb, hg, hnc, hcm, hcs, htake⟩
  · cases h'
  · cases h'
    exact holds_of_blockI hg (by simpa using htake)
theorem bw_grown {W0 w w' : World} {g : Nat} (hw : Below W0.heap.size W0 w) (hg : w.grownBy w' (some g)) (h : W0.heap.size ≤ g) : ∃ d, w' = bw W0 d :=
  bw_of (hw.grown hg hw.size (fun k hk => by cases hk; exact h))
theorem sl_Sort (W0 : World) (v : Value) (l : List Int) (w : World) (hw : Below W0.heap.size W0 w) (h : Ow w W0.heap.size v l) (hb : l.length ≤ 1000000000) :
    Calls Tryz.prog 138 #[v] w fun e w' => e = .returned (.tuple #[]) ∧ ∃ d, w' = bw W0 d ∧ Ow (bw W0 d) W0.heap.size v (srt l) := by
  by_cases hl : l = []
  · subst hl
    obtain ⟨a, cap, rfl⟩ := h.form
    obtain ⟨d, rfl⟩ := bw_of hw
    exact (Tryz.slices_Sort_int_none a cap _).mono fun e w' ⟨h1, h2⟩ => ⟨h1, d, h2, by rw [show srt [] = [] from List.eq_nil_of_length_eq_zero (srt_len [])]; exact h⟩
  · obtain ⟨g, cap, rfl, h1, h2, h3⟩ := h.form1 (List.length_pos_iff.2 hl)
    refine (Tryz.slices_Sort_int g 0 cap l w (holds_row h) h2 (by omega)).mono fun e w' ⟨e1, q, os, e2⟩ => ⟨e1, ?_⟩
    have := row_put (q := q) (os := os) h (srt_len l) (wf_of_mem h.2 fun x hx => mem_srt.1 hx)
    rw [e2]
    obtain ⟨d, hd⟩ := bw_grown hw this.2 h1
    refine ⟨d, hd, ?_⟩
    have h5 := this.1
    rw [show grow (putRow (Value.int .i64) (Sort.ahead w q) g 0 (srt l).toArray) os = bw W0 d from hd] at h5
    exact h5
end Go.Proofs.YtejmgdpgngjiiaaGreat
/- slices.Sorted of slices.Values at ints; average.median. -/
namespace Go.Proofs.YtejmgdpgngjiiaaGreat
open Go.RowKit Go.Shelf

theorem IntsV.of {w : World} {v : Value} {l : List Int} (h : Sl w v l) (h1 : 1 ≤ l.length) : IntsV w.heap.size w v l := by
  obtain ⟨b, o, cap, rfl, _, _, hb, hr⟩ := h.open (by omega)
  exact .inr ⟨b, o, cap, rfl, hb, fun j hj => by rw [hr j hj]; rfl⟩
set_option maxRecDepth 100000 in
theorem vl_Sorted (Bs : Nat) (sv : Value) (l : List Int) (w : World) (hBs : Bs < w.heap.size) (hc : w.cell? ⟨Bs, 0, none⟩ = some sv) (hs : Sl w sv l) (h1 : 1 ≤ l.length) (hn : l.length ≤ 1000000) :
    Calls Tryz.prog 86 #[.func (.func 139) #[] #[.pointer (some ⟨Bs, 0, none⟩)]] w (RwO w (srtI l)) := by
  have HC := Lib.hid (vl_Collect Bs sv l (by omega) w hBs hc (IntsV.of hs h1))
  have hw := fun i (hi : i < l.length) => (hs.open (by omega)).choose_spec.choose_spec.choose_spec.2.2.1 i hi
  have HO : Hid (∀ W v, W.ownsRow w.heap.size 3 1 v l.length (l.map (Value.int .i64)) → Ow W w.heap.size v l) := Lib.hid fun W v h => ⟨h, hw⟩
  have HL : Hid (l.length ≤ 1000000000) := Lib.hid (by omega)
  clear hs hw hc hBs h1 hn
  refine lay_start ?_
  go_enter Tryz.func86, Tryz.ntmps86
  go_wp2_with fail
  refine HC.out.mono ?_
  rintro e w' ⟨v, rfl, hv, hb⟩
  obtain ⟨d, rfl⟩ := bw_of hb
  have hv2 := HO.out _ _ hv
  have HS := Lib.hid (sl_Sort w v l (bw w d) hb hv2 HL.out)
  obtain ⟨a, cap, rfl⟩ := hv2.form
  obtain ⟨q, hq⟩ : ∃ q, l.length = q := ⟨_, rfl⟩
  rw [hq] at HS ⊢
  clear hv hv2 hb
  rw [show bw w d = lay w [.inr d] from rfl] at HS ⊢
  go_wp2_with fail
  refine HS.out.mono ?_
  rintro e w' ⟨rfl, d2, rfl, h2⟩
  have H2 := Lib.hid h2
  clear h2
  rw [show bw w d2 = lay w [.inr d2] from rfl]
  go_wp2_with fail
  go_ret
  exact ⟨_, d2, rfl, rfl, H2.out⟩
set_option maxRecDepth 100000 in
theorem av_median (v : Value) (l : List Int) (w : World) (hs : Sl w v l) (h1 : 1 ≤ l.length) (hn : l.length ≤ 1000000) :
    Calls Tryz.prog 40 #[v] w fun e w' => e = .returned (.int .i64 (medI l)) ∧ ∃ d, w' = bw w d := by
  have HS := Lib.hid (fun W Bs hBs hc (h : Sl W v l) => vl_Sorted Bs v l W hBs hc h h1 hn)
  have HV := Lib.hid hs
  obtain ⟨b, o, cap, rfl, -⟩ := hs.open (by omega)
  have HL := Lib.hid (srtI_len l)
  obtain ⟨m, hm⟩ : ∃ m, l.length = m := ⟨_, rfl⟩
  obtain ⟨q, hq⟩ : ∃ q, (m - 1) / 2 = q := ⟨_, rfl⟩
  have hmed : medI l = nth (srtI l) q := by unfold medI; rw [hm, hq]
  have HLw := Lib.hid (fun W => av_lower m W (by omega) (by omega))
  rw [hq] at HLw
  rw [hmed]
  rw [hm] at HL HS HV h1 hn ⊢
  generalize srtI l = L at *
  obtain ⟨X, hX⟩ : ∃ X, X = nth L q := ⟨_, rfl⟩
  rw [← hX]
  have HX := Lib.hid hX
  have HQ : Hid (q < m) := Lib.hid (by omega)
  have x0 : (0 : Int) ≤ (q : Int) := by omega
  have x1 : (q : Int) < (m : Int) := by omega
  clear hs hq hX hmed hm
  refine lay_start ?_
  go_enter Tryz.func40, Tryz.ntmps40
  go_wp2_with (first | (go_at_call 87; with_reducible refine (vl_Values _ _ _ _).mono ?_; rintro e w' ⟨rfl, rfl⟩; rw [show (lay w []).alloc (.cells #[.slice (some ⟨b, o, none⟩) m cap] 22) = lay w [.inl (.cells #[.slice (some ⟨b, o, none⟩) m cap] 22 (0, 0))] from rfl]) | fail)
  have hsz : (lay w [.inl (.cells #[.slice (some ⟨b, o, none⟩) m cap] 22 (0, 0))]).heap.size = w.heap.size + 1 := World.size_alloc _ _
  refine (HS.out (lay w [.inl (.cells #[.slice (some ⟨b, o, none⟩) m cap] 22 (0, 0))]) w.heap.size (by omega) ?_ (HV.out.lay _)).mono ?_
  · have e2 : (lay w [.inl (.cells #[.slice (some ⟨b, o, none⟩) m cap] 22 (0, 0))]).heap[w.heap.size]? = some (.cells #[.slice (some ⟨b, o, none⟩) m cap] 22 (0, 0)) := by show (w.heap.push _)[w.heap.size]? = _; simp
    simp [World.cell?, e2]
  rintro e w' ⟨v, d, rfl, rfl, hv⟩
  obtain ⟨g, c, hve, -, -, -⟩ := hv.form1 (by rw [HL.out]; omega)
  rw [HL.out] at hve
  subst hve
  rw [lay_bw] at hv
  have e1 := fun (A : List (Obj ⊕ Ext)) => (ow_on (A := A) hv).cell (i := q) (by rw [HL.out]; exact HQ.out)
  rw [← HX.out] at e1
  have c2 : ∀ d', (lay w [.inr d', .inr d, .inl (.cells #[.slice (some ⟨b, o, none⟩) m cap] 22 (0, 0))]).cell? ⟨g, q, none⟩ = some (.int .i64 X) := fun d' => e1 [.inr d']
  rw [show bw (lay w [.inl (.cells #[.slice (some ⟨b, o, none⟩) m cap] 22 (0, 0))]) d = lay w [.inr d, .inl (.cells #[.slice (some ⟨b, o, none⟩) m cap] 22 (0, 0))] from rfl]
  clear hv e1 hsz
  go_wp2_with fail
  refine (HLw.out _).mono ?_
  rintro e w' ⟨rfl, d2, rfl⟩
  rw [lay_bw]
  go_wp2_with fail
  go_ret
  exact ⟨rfl, lay_ex _ _⟩
end Go.Proofs.YtejmgdpgngjiiaaGreat
