/- Contracts and plain laws, several texts in one: Idx; Av2; Av1; AvP -/
import Derived.Test.YtmomoeagnkjbiaaGreatProg
import Derived.WalkKit
import Derived.WalkSpells
import Derived.WalkLawsBesides
import Derived.Lib.Hide
import Derived.BigQuiet
import Derived.Shelf.Abstract
import Derived.Test.YtmomoeagnkjbiaaGreatBAA
import Derived.Test.YtmomoeagnkjbiaaGreatBAB
/- slices.IndexFunc and ContainsFunc at ints, for a closure with whatever captured variables. -/
namespace Go.Proofs.YtmomoeagnkjbiaaGreat
open Go.RowKit

/-- The first place from k on where p holds, or -1. -/
def idxP (l : List Int) (p : Int → Bool) : Nat → Nat → Int
  | _, 0 => -1
  | k, f + 1 => if p (nth l k) then (k : Int) else idxP l p (k + 1) f
theorem idxP_miss {l : List Int} {p : Int → Bool} {k m : Nat} (h : p (nth l k) = false) (hk : k < m) (e : idxP l p 0 m = idxP l p k (m - k)) : idxP l p 0 m = idxP l p (k + 1) (m - (k + 1)) := by
  rw [e, show m - k = (m - (k + 1)) + 1 by omega]
  show (if p (nth l k) then (k : Int) else _) = _
  rw [h]; rfl
theorem idxP_got {l : List Int} {p : Int → Bool} {k m : Nat} (h : p (nth l k) = true) (hk : k < m) (e : idxP l p 0 m = idxP l p k (m - k)) : idxP l p 0 m = (k : Int) := by
  rw [e, show m - k = (m - (k + 1)) + 1 by omega]
  show (if p (nth l k) then (k : Int) else _) = _
  rw [h]; rfl
theorem idxP_spec (l : List Int) (p : Int → Bool) : ∀ f k, k + f = l.length → decide (0 ≤ idxP l p k f) = (l.drop k).any p
  | 0, k, h => by rw [List.drop_of_length_le (by omega)]; rfl
  | f + 1, k, h => by
    have hk : k < l.length := by omega
    rw [List.drop_eq_getElem_cons hk, List.any_cons, ← idxP_spec l p f (k + 1) (by omega)]
    have e : nth l k = l[k] := by unfold nth; simp [List.getD, hk]
    show decide (0 ≤ (if p (nth l k) then (k : Int) else _)) = _
    rw [e]
    cases p l[k]
    · simp
    · simp
theorem idxP_any (l : List Int) (p : Int → Bool) : decide (0 ≤ idxP l p 0 l.length) = l.any p := by rw [idxP_spec l p l.length 0 (by omega)]; rfl

def IdxPost (w : World) (x : Int) (e : Ending) (w' : World) : Prop := e = .returned (.int .i64 x) ∧ ∃ d, w' = bw w d
set_option maxHeartbeats 1000000 in
theorem sl_IndexFuncL (g : FuncId) (lb : List Value) (p : Int → Bool) (v : Value) (l : List Int) (w : World) (hv : Sl w v l)
    (eI : ∀ args w, (callFunc g args).run Tryz.prog w = .ok (.enter g args) w)
    (hf : ∀ i, i < l.length → ∀ d, Calls Tryz.prog g (.int .i64 (nth l i) :: lb).toArray (bw w d) fun e w' => e = .returned (.bool (p (nth l i))) ∧ ∃ d, w' = bw w d) :
    Calls Tryz.prog 155 #[v, .func (.func g) #[] lb.toArray] w (IdxPost w (idxP l p 0 l.length)) := by
  by_cases hz : l = []
  · subst hz
    obtain ⟨a, cap, rfl, -⟩ := hv
    clear hf
    refine lay_start ?_
    go_enter Tryz.func155, Tryz.ntmps155
    go_wp2_with fail
    refine wp_loop_rounds 1 ?_
    rw [rounds_succ]
    go_wp2
    go_ret
    exact ⟨rfl, lay_ex _ _⟩
  · obtain ⟨b, o, cap, rfl, hc, -, hb, hr⟩ := hv.open (List.length_pos_iff.2 hz)
    obtain ⟨m, hm⟩ : ∃ m, l.length = m := ⟨_, rfl⟩
    have HF := Lib.hid (fun i (hi : i < m) d => hf i (by omega) d)
    rw [hm] at hr hc ⊢
    have HR := Lib.hid hr
    clear hf hz hm hr
    refine lay_start ?_
    go_enter Tryz.func155, Tryz.ntmps155
    go_wp2_with fail
    go_loopw [8] (fun i wr => ∃ (k : Nat) (d : Ext), k ≤ m ∧ i = .int .i64 k ∧ wr = lay w [.inr d] ∧ idxP l p 0 m = idxP l p k (m - k)) (fun i _ => m - (intOf i).toNat)
    case atStart => exact ⟨0, noExt _, Nat.zero_le _, rfl, (bw_noExt _).symm, rfl⟩
    case round =>
      obtain ⟨k, d, hk, rfl, rfl, hA⟩ := hrel
      have HA := Lib.hid hA
      clear hA
      by_cases hlt : k < m
      · have e1 := HR.out k hlt
        have H1 := Lib.hid (HF.out k hlt d)
        cases ho : p (nth l k)
        · have HN := Lib.hid (idxP_miss ho hlt HA.out)
          rw [ho] at H1
          clear ho
          generalize nth l k = x at *
          go_wp2_with (refine H1.out.mono ?_; rintro e w' ⟨rfl, d1, rfl⟩)
          go_roundw
          case rel => exact ⟨k + 1, d1, by omega, by go_num, rfl, HN.out⟩
          case measure => simp [intOf]; omega
        · have HN := Lib.hid (idxP_got ho hlt HA.out)
          rw [ho] at H1
          clear ho
          generalize nth l k = x at *
          go_wp2_with (refine H1.out.mono ?_; rintro e w' ⟨rfl, d1, rfl⟩)
          go_ret
          exact ⟨ret_int HN.out.symm, d1, rfl⟩
      · obtain rfl : k = m := by omega
        have HN : Hid ((-1 : Int) = idxP l p 0 k) := Lib.hid (by rw [HA.out, Nat.sub_self]; rfl)
        go_wp2
        go_ret
        exact ⟨ret_int HN.out, lay_ex _ _⟩
set_option maxHeartbeats 1000000 in
theorem sl_ContainsFuncL (g : FuncId) (lb : List Value) (p : Int → Bool) (v : Value) (l : List Int) (w : World) (hv : Sl w v l)
    (eI : ∀ args w, (callFunc g args).run Tryz.prog w = .ok (.enter g args) w)
    (hf : ∀ i, i < l.length → ∀ d, Calls Tryz.prog g (.int .i64 (nth l i) :: lb).toArray (bw w d) fun e w' => e = .returned (.bool (p (nth l i))) ∧ ∃ d, w' = bw w d) :
    Calls Tryz.prog 120 #[v, .func (.func g) #[] lb.toArray] w fun e w' => e = .returned (.bool (l.any p)) ∧ ∃ d, w' = bw w d := by
  have H := Lib.hid (sl_IndexFuncL g lb p v l w hv eI hf)
  rw [← idxP_any l p]
  obtain ⟨a, cap, rfl, -⟩ := hv
  generalize l.length = m at *
  clear hf eI
  generalize idxP l p 0 m = I at *
  go_enter Tryz.func120, Tryz.ntmps120
  go_wp2_with (go_at_call 155; refine H.out.mono ?_; rintro e w' ⟨rfl, d1, rfl⟩)
  go_ret
  exact ⟨rfl, d1, rfl⟩

end Go.Proofs.YtmomoeagnkjbiaaGreat
/- average.outside. -/
namespace Go.Proofs.YtmomoeagnkjbiaaGreat
open Go.RowKit Go.Shelf

set_option maxRecDepth 100000 in
theorem av_outside1 (n lim : Int) (b : Nat) (w : World) (hb : b < w.heap.size) (hc : w.cell? ⟨b, 0, none⟩ = some (.int .i64 lim)) (h1 : 0 ≤ lim) (h2 : lim ≤ 4611686018427387904) :
    Calls Tryz.prog 121 #[.int .i64 n, .pointer (some ⟨b, 0, none⟩)] w fun e w' => e = .returned (.bool (decide (lim < n) || decide (n < -lim))) ∧ ∃ d, w' = bw w d := by
  have k : IntKind.i64.wrap (-lim) = -lim := IntWalk.i64_in _ (by omega)
  have k2 : wrap64 (-lim) = -lim := by unfold wrap64; omega
  have hc' : ∀ L, (lay w L).cell? ⟨b, 0, none⟩ = some (.int .i64 lim) := fun L => (lay_old w L 0 b hb).trans hc
  clear h1 h2
  cases e1 : decide (lim < n)
  · cases e2 : decide (n < -lim)
    · have q1 : ¬ lim < n := of_decide_eq_false e1
      have q2 : ¬ n < -lim := of_decide_eq_false e2
      refine lay_start ?_
      go_enter Tryz.func121, Tryz.ntmps121
      go_wp2_with fail
      go_ret
      exact ⟨rfl, lay_ex _ _⟩
    · have q1 : ¬ lim < n := of_decide_eq_false e1
      have q2 : n < -lim := of_decide_eq_true e2
      refine lay_start ?_
      go_enter Tryz.func121, Tryz.ntmps121
      go_wp2_with fail
      go_ret
      exact ⟨rfl, lay_ex _ _⟩
  · have q1 : lim < n := of_decide_eq_true e1
    refine lay_start ?_
    go_enter Tryz.func121, Tryz.ntmps121
    go_wp2_with fail
    go_ret
    exact ⟨rfl, lay_ex _ _⟩
def outB (l : List Int) (lim : Int) : Bool := l.any fun n => decide (lim < n) || decide (n < -lim)
set_option maxRecDepth 100000 in
theorem av_outside (v : Value) (l : List Int) (lim : Int) (w : World) (hv : Sl w v l) (h1 : 0 ≤ lim) (h2 : lim ≤ 4611686018427387904) :
    Calls Tryz.prog 66 #[v, .int .i64 lim] w fun e w' => e = .returned (.bool (outB l lim)) ∧ ∃ d, w' = bw w d := by
  have eI : ∀ args w, (callFunc 121 args).run Tryz.prog w = .ok (.enter 121 args) w := enters_of Tryz.func121 (by kernel_rfl) rfl
  have HC := Lib.hid (sl_ContainsFuncL 121 [.pointer (some ⟨w.heap.size, 0, none⟩)] (fun n => decide (lim < n) || decide (n < -lim)) v l (lay w [.inl (.cells #[.int .i64 lim] 3 (0, 0))]) (hv.lay _) eI
    (fun i _ d => (av_outside1 (nth l i) lim w.heap.size (bw (lay w [.inl (.cells #[.int .i64 lim] 3 (0, 0))]) d) (by have := bw_le (lay w [.inl (.cells #[.int .i64 lim] 3 (0, 0))]) d; have e : (lay w [.inl (.cells #[.int .i64 lim] 3 (0, 0))]).heap.size = w.heap.size + 1 := World.size_alloc _ _; omega)
      (by
        have e : (lay w [.inl (.cells #[.int .i64 lim] 3 (0, 0))]).heap.size = w.heap.size + 1 := World.size_alloc _ _
        rw [bw_cell _ _ _ _ (by omega)]
        have e2 : (lay w [.inl (.cells #[.int .i64 lim] 3 (0, 0))]).heap[w.heap.size]? = some (.cells #[.int .i64 lim] 3 (0, 0)) := by show (w.heap.push _)[w.heap.size]? = _; simp
        simp [World.cell?, e2]) h1 h2).mono fun e w' ⟨k1, x, k2⟩ => ⟨k1, _, k2.trans (bw_bw _ _ _)⟩))
  unfold outB
  generalize l.any (fun n => decide (lim < n) || decide (n < -lim)) = r at *
  clear hv h1 h2
  refine lay_start ?_
  go_enter Tryz.func66, Tryz.ntmps66
  go_wp2_with fail
  refine HC.out.mono ?_
  rintro e w' ⟨rfl, d, rfl⟩
  go_wp2_with fail
  go_ret
  exact ⟨rfl, lay_ex _ _⟩
end Go.Proofs.YtmomoeagnkjbiaaGreat
/- average: size, lower, floor. -/
namespace Go.Proofs.YtmomoeagnkjbiaaGreat
open Go.RowKit

set_option maxRecDepth 100000 in
theorem av_size (n : Int) (w : World) (h1 : -4611686018427387904 ≤ n) (h2 : n ≤ 4611686018427387904) :
    Calls Tryz.prog 67 #[.int .i64 n] w fun e w' => e = .returned (.int .i64 (max n (-n))) ∧ ∃ d, w' = bw w d := by
  have k : IntKind.i64.wrap (-n) = -n := IntWalk.i64_in _ (by omega)
  by_cases h : n < -n
  · rw [show max n (-n) = -n by omega]
    refine lay_start ?_
    go_enter Tryz.func67, Tryz.ntmps67
    go_wp2_with fail
    go_ret
    exact ⟨by simp <;> omega, lay_ex _ _⟩
  · rw [show max n (-n) = n by omega]
    refine lay_start ?_
    go_enter Tryz.func67, Tryz.ntmps67
    go_wp2_with fail
    go_ret
    exact ⟨by simp <;> omega, lay_ex _ _⟩
set_option maxRecDepth 100000 in
theorem av_lower (n : Nat) (w : World) (h1 : 1 ≤ n) (h2 : n ≤ 1000000) :
    Calls Tryz.prog 41 #[.int .i64 (n : Int)] w fun e w' => e = .returned (.int .i64 (((n - 1) / 2 : Nat) : Int)) ∧ ∃ d, w' = bw w d := by
  obtain ⟨q, hq⟩ : ∃ q : Int, (((n - 1) / 2 : Nat) : Int) = q := ⟨_, rfl⟩
  have k1 : IntKind.i64.wrap ((n : Int) - 1) = (n : Int) - 1 := IntWalk.i64_in _ (by omega)
  have k2 : IntKind.i64.wrap (((n : Int) - 1).tdiv 2) = q := by
    rw [Int.tdiv_eq_ediv_of_nonneg (by omega), IntWalk.i64_in _ (by omega)]; omega
  have k3 : ((n : Int) - 1).tdiv 2 = q := by
    rw [Int.tdiv_eq_ediv_of_nonneg (by omega)]; omega
  have k4 : wrap64 q = q := by unfold wrap64; omega
  rw [hq]
  clear hq
  refine lay_start ?_
  go_enter Tryz.func41, Tryz.ntmps41
  go_wp2_with fail
  go_ret
  exact ⟨by rw [k4]; rfl, lay_ex _ _⟩
end Go.Proofs.YtmomoeagnkjbiaaGreat
/- Medians and outliers: the plain law. No function of the program. -/
namespace Go.Proofs.YtmomoeagnkjbiaaGreat

def srtI (l : List Int) : List Int := l.mergeSort fun x y => decide (x ≤ y)
theorem srtI_len (l : List Int) : (srtI l).length = l.length := List.length_mergeSort l
theorem srtI_perm (l : List Int) : (srtI l).Perm l := List.mergeSort_perm l _
theorem mem_srtI {l : List Int} {x : Int} : x ∈ srtI l ↔ x ∈ l := List.mem_mergeSort
theorem srtI_pair (l : List Int) : (srtI l).Pairwise (· ≤ ·) := by
  have := List.pairwise_mergeSort (le := fun x y : Int => decide (x ≤ y)) (fun a b c h1 h2 => by simp at *; omega) (fun a b => by simp; omega) l
  exact this.imp fun h => by simpa using h
/-- Two lists, ascending, with the same elements as often, are one. -/
theorem asc_uniq {a b : List Int} (ha : a.Pairwise (· ≤ ·)) (hb : b.Pairwise (· ≤ ·)) (h : a.Perm b) : a = b :=
  List.Perm.eq_of_pairwise (le := (· ≤ ·)) (fun _ _ _ _ h1 h2 => Int.le_antisymm h1 h2) ha hb h
theorem srtI_eq {l a : List Int} (ha : a.Pairwise (· ≤ ·)) (h : a.Perm l) : srtI l = a := asc_uniq (srtI_pair l) ha ((srtI_perm l).trans h.symm)
/-- The lower median. -/
def medI (l : List Int) : Int := nth (srtI l) ((l.length - 1) / 2)
theorem nth_lt {l : List Int} {i : Nat} (h : i < l.length) : nth l i = l[i] := by
  unfold nth; rw [List.getD_eq_getElem?_getD, List.getElem?_eq_getElem h]; rfl
theorem medI_mem {l : List Int} (h : l ≠ []) : medI l ∈ l := by
  have hl := List.length_pos_iff.2 h
  have : (l.length - 1) / 2 < (srtI l).length := by rw [srtI_len]; omega
  unfold medI
  rw [nth_lt this]
  exact mem_srtI.1 (List.getElem_mem this)
theorem srtI_add (l : List Int) (c : Int) : srtI (l.map (· + c)) = (srtI l).map (· + c) :=
  srtI_eq (List.pairwise_map.2 ((srtI_pair l).imp fun h => by omega)) ((srtI_perm l).map _)
theorem medI_add {l : List Int} (h : l ≠ []) (c : Int) : medI (l.map (· + c)) = medI l + c := by
  have hl := List.length_pos_iff.2 h
  have hk : (l.length - 1) / 2 < (srtI l).length := by rw [srtI_len]; omega
  unfold medI
  rw [srtI_add, List.length_map, nth_lt hk, nth_lt (by rw [List.length_map]; exact hk), List.getElem_map]
/-- How far the elements are from the median. -/
def farI (l : List Int) : List Int := l.map fun n => max (n - medI l) (-(n - medI l))
theorem farI_len (l : List Int) : (farI l).length = l.length := List.length_map _
def limI (l : List Int) (f : Int) : Int := max (f * medI (farI l)) 100
/-- The indices of the outliers. -/
def outN (l : List Int) (f : Int) : List Nat := (List.range l.length).filter fun i => decide (limI l f < nth (farI l) i)
def outI (l : List Int) (f : Int) : List Int := (outN l f).map Int.ofNat
theorem farI_add {l : List Int} (h : l ≠ []) (c : Int) : farI (l.map (· + c)) = farI l := by
  unfold farI
  rw [medI_add h, List.map_map]
  refine List.map_congr_left fun x _ => ?_
  show max (x + c - (medI l + c)) (-(x + c - (medI l + c))) = _
  rw [show x + c - (medI l + c) = x - medI l by omega]
theorem outI_add {l : List Int} (h : l ≠ []) (c f : Int) : outI (l.map (· + c)) f = outI l f := by
  unfold outI outN limI
  rw [farI_add h, List.length_map]
theorem farI_pos {l : List Int} : ∀ x ∈ farI l, 0 ≤ x := by
  intro x hx
  obtain ⟨y, _, rfl⟩ := List.mem_map.1 hx
  omega
theorem farI_med {l : List Int} (h : l ≠ []) : 0 ≤ medI (farI l) := farI_pos _ (medI_mem (by unfold farI; simpa using h))
/-- All elements equal: none is an outlier. -/
theorem outI_same {l : List Int} {c : Int} (h : ∀ x ∈ l, x = c) (f : Int) : outI l f = [] := by
  by_cases hl : l = []
  · subst hl; rfl
  have hm : medI l = c := h _ (medI_mem hl)
  have hfar : ∀ x ∈ farI l, x = 0 := by
    intro x hx
    obtain ⟨y, hy, rfl⟩ := List.mem_map.1 hx
    rw [hm, h y hy]; omega
  have hz : outN l f = [] := by
    unfold outN
    refine List.filter_eq_nil_iff.2 fun i hi => ?_
    have hi2 : i < (farI l).length := by rw [farI_len]; exact List.mem_range.1 hi
    rw [nth_lt hi2, hfar _ (List.getElem_mem hi2)]
    have : 0 < limI l f := by unfold limI; omega
    simp; omega
  unfold outI; rw [hz]; rfl
theorem lim_mono {l : List Int} (h : l ≠ []) {f g : Int} (hfg : f ≤ g) : limI l f ≤ limI l g := by
  unfold limI
  have := Int.mul_le_mul_of_nonneg_right hfg (farI_med h)
  omega
/-- A greater factor has no more outliers. -/
theorem outI_mono {l : List Int} (h : l ≠ []) {f g : Int} (hfg : f ≤ g) : ∀ x ∈ outI l g, x ∈ outI l f := by
  intro x hx
  obtain ⟨i, hi, rfl⟩ := List.mem_map.1 hx
  refine List.mem_map.2 ⟨i, ?_, rfl⟩
  obtain ⟨h1, h2⟩ := List.mem_filter.1 hi
  refine List.mem_filter.2 ⟨h1, ?_⟩
  have := lim_mono h hfg
  simp at h2 ⊢; omega
/-- Not more than half are greater than the lower median. -/
theorem med_half (l : List Int) : 2 * (l.filter fun x => decide (medI l < x)).length ≤ l.length := by
  by_cases hl : l = []
  · subst hl; simp
  have hpos := List.length_pos_iff.2 hl
  have e1 : (l.filter fun x => decide (medI l < x)).length = ((srtI l).filter fun x => decide (medI l < x)).length := ((srtI_perm l).symm.filter _).length_eq
  rw [e1]
  obtain ⟨k, hk⟩ : ∃ k, (l.length - 1) / 2 = k := ⟨_, rfl⟩
  have hkl : k < (srtI l).length := by rw [srtI_len]; omega
  have hm : medI l = (srtI l)[k] := by unfold medI; rw [hk, nth_lt hkl]
  have e2 : ((srtI l).take (k + 1)).filter (fun x => decide (medI l < x)) = [] := by
    refine List.filter_eq_nil_iff.2 fun x hx => ?_
    obtain ⟨i, hi, rfl⟩ := List.getElem_of_mem hx
    rw [List.length_take] at hi
    rw [List.getElem_take]
    have hle : (srtI l)[i] ≤ (srtI l)[k] := by
      by_cases he : i = k
      · subst he; exact Int.le_refl _
      · exact List.pairwise_iff_getElem.1 (srtI_pair l) i k (by omega) hkl (by omega)
    rw [← hm] at hle
    simp; omega
  have e3 : ((srtI l).filter fun x => decide (medI l < x)).length ≤ (srtI l).length - (k + 1) := by
    conv => lhs; rw [← List.take_append_drop (k + 1) (srtI l)]
    rw [List.filter_append, e2, List.nil_append, ← List.length_drop]
    exact List.length_filter_le _ _
  rw [srtI_len] at e3
  omega
theorem range_nth (l : List Int) : (List.range l.length).map (nth l) = l := by
  refine List.ext_getElem (by simp) fun i h1 h2 => ?_
  rw [List.getElem_map, List.getElem_range, nth_lt h2]
theorem outI_half {l : List Int} (h : l ≠ []) {f : Int} (hf : 1 ≤ f) : 2 * (outI l f).length ≤ l.length := by
  have e0 : (outI l f).length = ((farI l).filter fun x => decide (limI l f < x)).length := by
    unfold outI outN
    rw [List.length_map, ← farI_len l]
    conv => rhs; rw [← range_nth (farI l)]
    rw [List.filter_map, List.length_map]
    rfl
  have h1 := med_half (farI l)
  have h2 : ((farI l).filter fun x => decide (limI l f < x)).length ≤ ((farI l).filter fun x => decide (medI (farI l) < x)).length := by
    rw [← List.countP_eq_length_filter, ← List.countP_eq_length_filter]
    refine List.countP_mono_left fun x _ hx => ?_
    have hm := farI_med h
    have : medI (farI l) ≤ limI l f := by
      unfold limI
      have := Int.mul_le_mul_of_nonneg_right hf hm
      omega
    simp at hx ⊢; omega
  rw [farI_len] at h1
  omega
end Go.Proofs.YtmomoeagnkjbiaaGreat
