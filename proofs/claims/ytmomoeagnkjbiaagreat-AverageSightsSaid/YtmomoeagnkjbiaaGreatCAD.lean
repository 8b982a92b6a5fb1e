/- Contracts and plain laws, several texts in one: AvP; SoP; So1; So2 -/
import Derived.Test.YtmomoeagnkjbiaaGreatProg
import Derived.WalkKit
import Derived.WalkSpells
import Derived.WalkLawsBesides
import Derived.Lib.Hide
import Derived.BigQuiet
import Derived.Test.YtmomoeagnkjbiaaGreatCAA
import Derived.Test.YtmomoeagnkjbiaaGreatCAB
import Derived.Test.YtmomoeagnkjbiaaGreatCAC
/- Medians and outliers: the plain law. No function of the program. -/
namespace Go.Proofs.YtmomoeagnkjbiaaGreat

def srtI (l : List Int) : List Int := l.mergeSort fun x y => decide (x ≤ y)
theorem srtI_len (l : List Int) : (srtI l).length = l.length := List.length_mergeSort l
theorem srtI_perm (l : List Int) : (srtI l).Perm l := List.mergeSort_perm l _
theorem mem_srtI {l : List Int} {x : Int} : x ∈ srtI l ↔ x ∈ l := List.mem_mergeSort
theorem srtI_pair (l : List Int) : (srtI l).Pairwise (· ≤ ·) := by
  have := List.pairwise_mergeSort (le := fun x y : Int => decide (x ≤ y)) (fun a b c h1 h2 => by simp at *; omega) (fun a b => by simp; omega) l
  exact this.imp fun h => by simpa using h
/-- Two lists, ascending, with the same elements as often, are one. -/
theorem asc_uniq {a b : List Int} (ha : a.Pairwise (· ≤ ·)) (hb : b.Pairwise (· ≤ ·)) (h : a.Perm b) : a = b :=
  List.Perm.eq_of_pairwise (le := (· ≤ ·)) (fun _ _ _ _ h1 h2 => Int.le_antisymm h1 h2) ha hb h
theorem srtI_eq {l a : List Int} (ha : a.Pairwise (· ≤ ·)) (h : a.Perm l) : srtI l = a := asc_uniq (srtI_pair l) ha ((srtI_perm l).trans h.symm)
/-- The lower median. -/
def medI (l : List Int) : Int := nth (srtI l) ((l.length - 1) / 2)
theorem nth_lt {l : List Int} {i : Nat} (h : i < l.length) : nth l i = l[i] := by
  unfold nth; rw [List.getD_eq_getElem?_getD, List.getElem?_eq_getElem h]; rfl
theorem medI_mem {l : List Int} (h : l ≠ []) : medI l ∈ l := by
  have hl := List.length_pos_iff.2 h
  have : (l.length - 1) / 2 < (srtI l).length := by rw [srtI_len]; omega
  unfold medI
  rw [nth_lt this]
  exact mem_srtI.1 (List.getElem_mem this)
theorem srtI_add (l : List Int) (c : Int) : srtI (l.map (· + c)) = (srtI l).map (· + c) :=
  srtI_eq (List.pairwise_map.2 ((srtI_pair l).imp fun h => by omega)) ((srtI_perm l).map _)
theorem medI_add {l : List Int} (h : l ≠ []) (c : Int) : medI (l.map (· + c)) = medI l + c := by
  have hl := List.length_pos_iff.2 h
  have hk : (l.length - 1) / 2 < (srtI l).length := by rw [srtI_len]; omega
  unfold medI
  rw [srtI_add, List.length_map, nth_lt hk, nth_lt (by rw [List.length_map]; exact hk), List.getElem_map]
/-- How far the elements are from the median. -/
def farI (l : List Int) : List Int := l.map fun n => max (n - medI l) (-(n - medI l))
theorem farI_len (l : List Int) : (farI l).length = l.length := List.length_map _
def limI (l : List Int) (f : Int) : Int := max (f * medI (farI l)) 100
/-- The indices of the outliers. -/
def outN (l : List Int) (f : Int) : List Nat := (List.range l.length).filter fun i => decide (limI l f < nth (farI l) i)
def outI (l : List Int) (f : Int) : List Int := (outN l f).map Int.ofNat
theorem farI_add {l : List Int} (h : l ≠ []) (c : Int) : farI (l.map (· + c)) = farI l := by
  unfold farI
  rw [medI_add h, List.map_map]
  refine List.map_congr_left fun x _ => ?_
  show max (x + c - (medI l + c)) (-(x + c - (medI l + c))) = _
  rw [show x + c - (medI l + c) = x - medI l by omega]
theorem outI_add {l : List Int} (h : l ≠ []) (c f : Int) : outI (l.map (· + c)) f = outI l f := by
  unfold outI outN limI
  rw [farI_add h, List.length_map]
theorem farI_pos {l : List Int} : ∀ x ∈ farI l, 0 ≤ x := by
  intro x hx
  obtain ⟨y, _, rfl⟩ := List.mem_map.1 hx
  omega
theorem farI_med {l : List Int} (h : l ≠ []) : 0 ≤ medI (farI l) := farI_pos _ (medI_mem (by unfold farI; simpa using h))
/-- All elements equal: none is an outlier. -/
theorem outI_same {l : List Int} {c : Int} (h : ∀ x ∈ l, x = c) (f : Int) : outI l f = [] := by
  by_cases hl : l = []
  · subst hl; rfl
  have hm : medI l = c := h _ (medI_mem hl)
  have hfar : ∀ x ∈ farI l, x = 0 := by
    intro x hx
    obtain ⟨y, hy, rfl⟩ := List.mem_map.1 hx
    rw [hm, h y hy]; omega
  have hz : outN l f = [] := by
    unfold outN
    refine List.filter_eq_nil_iff.2 fun i hi => ?_
    have hi2 : i < (farI l).length := by rw [farI_len]; exact List.mem_range.1 hi
    rw [nth_lt hi2, hfar _ (List.getElem_mem hi2)]
    have : 0 < limI l f := by unfold limI; omega
    simp; omega
  unfold outI; rw [hz]; rfl
theorem lim_mono {l : List Int} (h : l ≠ []) {f g : Int} (hfg : f ≤ g) : limI l f ≤ limI l g := by
  unfold limI
  have := Int.mul_le_mul_of_nonneg_right hfg (farI_med h)
  omega
/-- A greater factor has no more outliers. -/
theorem outI_mono {l : List Int} (h : l ≠ []) {f g : Int} (hfg : f ≤ g) : ∀ x ∈ outI l g, x ∈ outI l f := by
  intro x hx
  obtain ⟨i, hi, rfl⟩ := List.mem_map.1 hx
  refine List.mem_map.2 ⟨i, ?_, rfl⟩
  obtain ⟨h1, h2⟩ := List.mem_filter.1 hi
  refine List.mem_filter.2 ⟨h1, ?_⟩
  have := lim_mono h hfg
  simp at h2 ⊢; omega
/-- Not more than half are greater than the lower median. -/
theorem med_half (l : List Int) : 2 * (l.filter fun x => decide (medI l < x)).length ≤ l.length := by
  by_cases hl : l = []
  · subst hl; simp
  have hpos := List.length_pos_iff.2 hl
  have e1 : (l.filter fun x => decide (medI l < x)).length = ((srtI l).filter fun x => decide (medI l < x)).length := ((srtI_perm l).symm.filter _).length_eq
  rw [e1]
  obtain ⟨k, hk⟩ : ∃ k, (l.length - 1) / 2 = k := ⟨_, rfl⟩
  have hkl : k < (srtI l).length := by rw [srtI_len]; omega
  have hm : medI l = (srtI l)[k] := by unfold medI; rw [hk, nth_lt hkl]
  have e2 : ((srtI l).take (k + 1)).filter (fun x => decide (medI l < x)) = [] := by
    refine List.filter_eq_nil_iff.2 fun x hx => ?_
    obtain ⟨i, hi, rfl⟩ := List.getElem_of_mem hx
    rw [List.length_take] at hi
    rw [List.getElem_take]
    have hle : (srtI l)[i] ≤ (srtI l)[k] := by
      by_cases he : i = k
      · subst he; exact Int.le_refl _
      · exact List.pairwise_iff_getElem.1 (srtI_pair l) i k (by omega) hkl (by omega)
    rw [← hm] at hle
    simp; omega
  have e3 : ((srtI l).filter fun x => decide (medI l < x)).length ≤ (srtI l).length - (k + 1) := by
    conv => lhs; rw [← List.take_append_drop (k + 1) (srtI l)]
    rw [List.filter_append, e2, List.nil_append, ← List.length_drop]
    exact List.length_filter_le _ _
  rw [srtI_len] at e3
  omega
theorem range_nth (l : List Int) : (List.range l.length).map (nth l) = l := by
  refine List.ext_getElem (by simp) fun i h1 h2 => ?_
  rw [List.getElem_map, List.getElem_range, nth_lt h2]
theorem outI_half {l : List Int} (h : l ≠ []) {f : Int} (hf : 1 ≤ f) : 2 * (outI l f).length ≤ l.length := by
  have e0 : (outI l f).length = ((farI l).filter fun x => decide (limI l f < x)).length := by
    unfold outI outN
    rw [List.length_map, ← farI_len l]
    conv => rhs; rw [← range_nth (farI l)]
    rw [List.filter_map, List.length_map]
    rfl
  have h1 := med_half (farI l)
  have h2 : ((farI l).filter fun x => decide (limI l f < x)).length ≤ ((farI l).filter fun x => decide (medI (farI l) < x)).length := by
    rw [← List.countP_eq_length_filter, ← List.countP_eq_length_filter]
    refine List.countP_mono_left fun x _ hx => ?_
    have hm := farI_med h
    have : medI (farI l) ≤ limI l f := by
      unfold limI
      have := Int.mul_le_mul_of_nonneg_right hf hm
      omega
    simp at hx ⊢; omega
  rw [farI_len] at h1
  omega
end Go.Proofs.YtmomoeagnkjbiaaGreat
/- Insertion: the plain law. No function of the program. -/
namespace Go.Proofs.YtmomoeagnkjbiaaGreat

/-- Of the elements up to index i, those apart from the one at k are ascending, and this is not greater than those behind it. -/
def InsI (l : List Int) (i k : Nat) : Prop := ∀ a b, a < b → b ≤ i → b ≠ k → nth l a ≤ nth l b
def AscTo (l : List Int) (i : Nat) : Prop := ∀ a b, a < b → b < i → nth l a ≤ nth l b
def swpI (l : List Int) (k : Nat) : List Int := (l.set k (nth l (k - 1))).set (k - 1) (nth l k)
theorem swpI_len (l : List Int) (k : Nat) : (swpI l k).length = l.length := by unfold swpI; simp
theorem swpI_perm {l : List Int} {k : Nat} (h : k < l.length) : (swpI l k).Perm l := by
  unfold swpI
  rw [nth_lt h, nth_lt (show k - 1 < l.length by omega)]
  exact List.set_set_perm h (by omega)
theorem nth_set1 {l : List Int} {i j : Nat} {x : Int} (h : i < l.length) : nth (l.set i x) j = if i = j then x else nth l j := by
  unfold nth
  simp only [List.getD_eq_getElem?_getD, List.getElem?_set]
  by_cases e : i = j
  · subst e; simp [h]
  · simp [e]
theorem swpI_nth {l : List Int} {k j : Nat} (h : k < l.length) (h0 : 0 < k) : nth (swpI l k) j = if j = k then nth l (k - 1) else if j = k - 1 then nth l k else nth l j := by
  unfold swpI
  rw [nth_set1 (by rw [List.length_set]; omega), nth_set1 h]
  by_cases e1 : j = k
  · rw [if_pos e1, if_neg (by omega), if_pos e1.symm]
  · rw [if_neg e1]
    by_cases e2 : j = k - 1
    · rw [if_pos e2, if_pos e2.symm]
    · rw [if_neg e2, if_neg (fun h => e2 h.symm), if_neg (fun h => e1 h.symm)]
theorem InsI.start {l : List Int} {i : Nat} (h : AscTo l i) : InsI l i i := fun a b h1 h2 h3 => h a b h1 (by omega)
theorem InsI.step {l : List Int} {i k : Nat} (h : InsI l i k) (h0 : 0 < k) (hk : k ≤ i) (hi : i < l.length) (hlt : nth l k < nth l (k - 1)) : InsI (swpI l k) i (k - 1) := by
  intro a b h1 h2 h3
  have hkl : k < l.length := by omega
  rw [swpI_nth hkl h0, swpI_nth hkl h0]
  by_cases e1 : b = k
  · subst e1
    rw [if_pos rfl, if_neg (by omega)]
    by_cases e2 : a = b - 1
    · rw [if_pos e2]; omega
    · rw [if_neg e2]; exact h a (b - 1) (by omega) (by omega) (by omega)
  · rw [if_neg e1, if_neg h3]
    by_cases e2 : a = k
    · rw [if_pos e2]; exact h (k - 1) b (by omega) h2 e1
    · rw [if_neg e2]
      by_cases e3 : a = k - 1
      · rw [if_pos e3]; exact h k b (by omega) h2 e1
      · rw [if_neg e3]; exact h a b h1 h2 e1
theorem InsI.stop {l : List Int} {i k : Nat} (h : InsI l i k) (hk : k = 0 ∨ nth l (k - 1) ≤ nth l k) : AscTo l (i + 1) := by
  intro a b h1 h2
  by_cases e : b = k
  · subst e
    rcases hk with hk | hk
    · omega
    · by_cases e2 : a = b - 1
      · subst e2; exact hk
      · have := h a (b - 1) (by omega) (by omega) (by omega)
        omega
  · exact h a b h1 (by omega) e
theorem AscTo.pair {l : List Int} (h : AscTo l l.length) : l.Pairwise (· ≤ ·) := by
  refine List.pairwise_iff_getElem.2 fun i j hi hj hij => ?_
  have := h i j hij hj
  rw [nth_lt hi, nth_lt hj] at this
  exact this
theorem AscTo.one (l : List Int) : AscTo l 1 := fun a b h1 h2 => by omega
end Go.Proofs.YtmomoeagnkjbiaaGreat
/- The reference of average: Sorted. -/
namespace Go.Proofs.YtmomoeagnkjbiaaGreat
open Go.RowKit

structure SoI (W : World) (base g m c : Nat) (l L : List Int) : Prop where
  own : Ow W base (.slice (some ⟨g, 0, none⟩) m c) L
  len : L.length = m
  perm : L.Perm l
theorem SoI.on {w : World} {d d2 : Ext} {base g m c : Nat} {l L : List Int} (h : SoI (lay w [.inr d2]) base g m c l L) : SoI (lay w [.inr d, .inr d2]) base g m c l L := ⟨ow_on (A := [.inr d]) h.own, h.len, h.perm⟩
/-- A store into the row, behind a draw. -/
theorem ow_store2 {w : World} {d : Ext} {g n c base : Nat} {L : List Int} (e : Ext) (j : Nat) {x : Int} (h : Ow (lay w [.inr d]) base (.slice (some ⟨g, 0, none⟩) n c) L) (hg : w.heap.size ≤ g) (hx : (Lit.int .i64 x).wf = true) :
    ∃ d', (lay w [.inr e, .inr d]).setCell ⟨g, j, none⟩ (.int .i64 x) = lay w [.inr d'] ∧ Ow (lay w [.inr d']) base (.slice (some ⟨g, 0, none⟩) n c) (L.set j x) := by
  obtain ⟨d1, e1⟩ : ∃ x, lay w [.inr e, .inr d] = lay w [.inr x] := ⟨_, bw_bw _ _ _⟩
  have h1 := ow_on (A := [.inr e]) h
  change Ow (lay w [.inr e, .inr d]) base _ L at h1
  rw [e1] at h1 ⊢
  obtain ⟨d2, e2⟩ := bw_store (w := w) (d := d1) (g := g) (i := j) (v := .int .i64 x) hg
  have e3 : (lay w [.inr d1]).setCell ⟨g, j, none⟩ (.int .i64 x) = lay w [.inr d2] := e2
  have h2 := ow_store h1 j x hx
  rw [e3] at h2
  exact ⟨d2, e3, h2⟩
set_option maxHeartbeats 2000000 in
set_option maxRecDepth 100000 in
theorem r23_Sorted (v : Value) (l : List Int) (w : World) (hs : Sl w v l) (h1 : 1 ≤ l.length) (hn : l.length ≤ 1000000) :
    Calls Tryz.prog 94 #[v] w (RwO w (srtI l)) := by
  have HS := Lib.hid hs
  obtain ⟨b, o, cap, rfl, -⟩ := hs.open (by omega)
  obtain ⟨m, hm⟩ : ∃ m, l.length = m := ⟨_, rfl⟩
  rw [hm] at HS h1 hn ⊢
  have HM := Lib.hid hm
  clear hm hs
  refine lay_start ?_
  go_enter Tryz.func94, Tryz.ntmps94
  go_wp2_with (at_builtin; refine push_sl rfl _ _ rfl (lay w []) _ _ _ _ _ _ l ?_ (ow_empty (L := [])) (HS.out.lay _) (fun h => by cases h) rfl rfl (by rw [HM.out]; show 0 + m ≤ _; omega) ?_; exact lay_below (A := [_]); intro v' d' hv'; obtain ⟨g, c, hve, h2, h3, h4⟩ := hv'.form1 (show 0 < l.length by rw [HM.out]; omega); rw [show (([] : List Int) ++ l).length = m from HM.out] at hve h4; subst hve; replace hv' : Ow (lay w [.inr d']) (lay w []).heap.size (.slice (some ⟨g, 0, none⟩) m c) l := hv'; have HV := Lib.hid (SoI.mk hv' HM.out (List.Perm.refl l)); clear hv' h3)
  have hg : w.heap.size ≤ g := h2
  go_loopw [4] (fun v4 wr => ∃ (i : Nat) (L : List Int) (dd : Ext), 1 ≤ i ∧ i ≤ m ∧ v4 = .int .i64 (i : Int) ∧ wr = lay w [.inr dd] ∧ SoI (lay w [.inr dd]) (lay w []).heap.size g m c l L ∧ AscTo L i) (fun v4 _ => m - (intOf v4).toNat)
  case atStart => exact ⟨1, l, d', Nat.le_refl _, h1, rfl, rfl, HV.out, AscTo.one l⟩
  case round =>
    obtain ⟨i, L, dd, hi1, hi, rfl, rfl, hO, hA⟩ := hrel
    by_cases hlt : i < m
    · have x0 : (i : Int) < (m : Int) := by omega
      have HO := Lib.hid (And.intro hO hA)
      clear hO hA
      go_wp2_with fail
      go_loopw [5] (fun v5 wr => ∃ (k : Nat) (L : List Int) (d2 : Ext), k ≤ i ∧ v5 = .int .i64 (k : Int) ∧ wr = lay w [.inr d2] ∧ SoI (lay w [.inr d2]) (lay w []).heap.size g m c l L ∧ InsI L i k) (fun v5 _ => (intOf v5).toNat)
      case atStart => exact ⟨i, L, dd, Nat.le_refl _, rfl, rfl, HO.out.1, InsI.start HO.out.2⟩
      case round =>
        obtain ⟨k, L, d2, hk, rfl, rfl, hO2, hI⟩ := hrel
        have HO2 := Lib.hid (And.intro hO2 hI)
        have hL := hO2.len
        by_cases hk0 : k = 0
        · subst hk0
          have y0 : decide ((0 : Int) < ((0 : Nat) : Int)) = false := rfl
          clear hO2 hI
          go_wp2_with fail
          refine region_bw (by kernel_rfl) (by kernel_rfl) ?_
          repeat (go_big_quiet_step ((first | fail)))
          refine wpQuiet_nil ?_
          rintro w' ⟨d, rfl⟩
          rw [lay_bw]
          obtain ⟨d3, e3⟩ : ∃ x, lay w [.inr d, .inr d2] = lay w [.inr x] := ⟨_, bw_bw _ _ _⟩
          have HO3 := Lib.hid (HO2.out.1.on (d := d))
          rw [e3] at HO3 ⊢
          clear e3
          go_wp2_with fail
          go_roundw
          case rel => exact ⟨i + 1, L, d3, by omega, by omega, by first | rfl | exact congrArg (Value.int .i64) (by omega), rfl, HO3.out, HO2.out.2.stop (.inl rfl)⟩
          case measure => simp [intOf]; omega
        · have e1 := fun d' => (ow_on (A := [.inr d']) hO2.own).cell (i := k) (by omega)
          have e0 := fun d' => (ow_on (A := [.inr d']) hO2.own).cell (i := k - 1) (by omega)
          have c1 : ∀ d', (lay w [.inr d', .inr d2]).cell? ⟨g, k, none⟩ = some (.int .i64 (nth L k)) := e1
          have c0 : ∀ d', (lay w [.inr d', .inr d2]).cell? ⟨g, k - 1, none⟩ = some (.int .i64 (nth L (k - 1))) := e0
          have y0 : decide (0 < k) = true := decide_eq_true (by omega)
          have y00 : 0 < k := by omega
          have y1 : (0 : Int) ≤ (k : Int) := by omega
          have y2 : (k : Int) < (m : Int) := by omega
          have y3 : (0 : Int) ≤ (k : Int) - 1 := by omega
          have y33 : (1 : Int) ≤ (k : Int) := by omega
          have y4 : (k : Int) - 1 < (m : Int) := by omega
          have y5 : ((k : Int) - 1).toNat = k - 1 := by omega
          have w3 : IntKind.i64.wrap ((k : Int) - 1) = (k : Int) - 1 := IntWalk.i64_in _ (by omega)
          obtain ⟨X, hX⟩ : ∃ X, X = nth L k := ⟨_, rfl⟩
          obtain ⟨Y, hY⟩ : ∃ Y, Y = nth L (k - 1) := ⟨_, rfl⟩
          rw [← hX] at c1
          rw [← hY] at c0
          have HX := Lib.hid (And.intro hX hY)
          clear hO2 hI e1 e0 hX hY
          by_cases hxy : X < Y
          · have y6 : decide (X < Y) = true := decide_eq_true hxy
            go_wp2_with fail
            refine region_bw (by kernel_rfl) (by kernel_rfl) ?_
            repeat (go_big_quiet_step ((first | fail)))
            refine wpQuiet_nil ?_
            rintro w' ⟨d, rfl⟩
            rw [lay_bw]
            obtain ⟨d3, e3⟩ : ∃ x, lay w [.inr d, .inr d2] = lay w [.inr x] := ⟨_, bw_bw _ _ _⟩
            have HO3 := Lib.hid (HO2.out.1.on (d := d))
            rw [e3] at HO3 ⊢
            clear e3 c1 c0
            have e1 := fun d' => (ow_on (A := [.inr d']) HO3.out.own).cell (i := k) (by rw [HO3.out.len]; omega)
            have e0 := fun d' => (ow_on (A := [.inr d']) HO3.out.own).cell (i := k - 1) (by rw [HO3.out.len]; omega)
            rw [← HX.out.1] at e1
            rw [← HX.out.2] at e0
            have c1 : ∀ d', (lay w [.inr d', .inr d3]).cell? ⟨g, k, none⟩ = some (.int .i64 X) := e1
            have c0 : ∀ d', (lay w [.inr d', .inr d3]).cell? ⟨g, k - 1, none⟩ = some (.int .i64 Y) := e0
            clear e1 e0
            go_wp2_with fail
            refine region_mixS 15 [(0, 2), (1, 2), (2, 2), (3, 2), (4, 2), (5, 2), (6, 2), (7, 2), (8, 2), (9, 0), (10, 2), (11, 2), (12, 2), (13, 0), (14, 2), (15, 3), (16, 2), (17, 3)] (by kernel_rfl) (by kernel_rfl) (by kernel_rfl) rfl ?_
            repeat (first | (refine wpMS_pure rfl (fun K hK => ?_); go_simp; refine hK _ ?_; clear hK K) | (refine wpMS_quiet rfl (fun K hK => ?_); go_simp; first | (refine hK _ ?_; clear hK K) | (apply Exists.intro; refine ⟨fun _ => ?_, hK _ ?_⟩; (first | fail); clear hK K)))
            have f1 : ∀ d', (lay w [.inr d', .inr d3]).frozen? ⟨g, k, none⟩ = false := fun d' => ((HO3.out.on (d := d')).own).froz k
            have wX : (Lit.int .i64 X).wf = true := by rw [HX.out.1]; exact HO3.out.own.2 k (by rw [HO3.out.len]; omega)
            have wY : (Lit.int .i64 Y).wf = true := by rw [HX.out.2]; exact HO3.out.own.2 (k - 1) (by rw [HO3.out.len]; omega)
            refine wpMS_store rfl (fun K hK e1 => ?_)
            go_simp
            refine hK _ _ ?_
            clear hK K f1 c1 c0
            obtain ⟨d4, e4, hO4⟩ := ow_store2 e1 k HO3.out.own hg wY
            rw [e4]
            repeat (first | (refine wpMS_pure rfl (fun K hK => ?_); go_simp; refine hK _ ?_; clear hK K) | (refine wpMS_quiet rfl (fun K hK => ?_); go_simp; first | (refine hK _ ?_; clear hK K) | (apply Exists.intro; refine ⟨fun _ => ?_, hK _ ?_⟩; (first | fail); clear hK K)))
            have f0 : ∀ d', (lay w [.inr d', .inr d4]).frozen? ⟨g, k - 1, none⟩ = false := fun d' => (ow_on (A := [.inr d']) hO4).froz (k - 1)
            have c0 : ∀ d', (lay w [.inr d', .inr d4]).cell? ⟨g, k - 1, none⟩ = some (.int .i64 Y) := fun d' => by
              have h := (ow_on (A := [.inr d']) hO4).cell (i := k - 1) (by rw [List.length_set, HO3.out.len]; omega)
              rw [nth_set1 (by rw [HO3.out.len]; omega), if_neg (by omega), ← HX.out.2] at h
              exact h
            have HO4 := Lib.hid hO4
            clear hO4
            refine wpMS_store rfl (fun K hK e1 => ?_)
            go_simp
            refine hK _ _ ?_
            clear hK K f0 c0
            obtain ⟨d5, e5, hO5⟩ := ow_store2 e1 (k - 1) HO4.out hg wX
            rw [e5]
            refine wpMS_nil (fun e6 => ?_)
            obtain ⟨d6, e7⟩ : ∃ x, lay w [.inr e6, .inr d5] = lay w [.inr x] := ⟨_, bw_bw _ _ _⟩
            have hO6 := ow_on (A := [.inr e6]) hO5
            change Ow (lay w [.inr e6, .inr d5]) _ _ _ at hO6
            change Exit.inBlock _ _ _ _ (lay w [.inr e6, .inr d5])
            rw [e7] at hO6 ⊢
            rw [HX.out.1, HX.out.2] at hO6
            have HO6 : Hid (SoI (lay w [.inr d6]) (lay w []).heap.size g m c l (swpI L k)) := Lib.hid ⟨hO6, by rw [swpI_len]; exact HO3.out.len, (swpI_perm (by rw [HO3.out.len]; omega)).trans HO3.out.perm⟩
            have HI6 : Hid (InsI (swpI L k) i (k - 1)) := Lib.hid (HO2.out.2.step (by omega) hk (by rw [HO3.out.len]; exact hlt) (by obtain ⟨rfl, rfl⟩ := HX.out; exact hxy))
            clear hO5 hO6 e7 e5 e4
            go_wp2_with fail
            go_roundw
            case rel => exact ⟨k - 1, swpI L k, d6, by omega, by first | rfl | exact congrArg (Value.int .i64) (by omega), rfl, HO6.out, HI6.out⟩
            case measure => simp [intOf]; omega
          · have y6 : decide (X < Y) = false := decide_eq_false hxy
            go_wp2_with fail
            refine region_bw (by kernel_rfl) (by kernel_rfl) ?_
            repeat (go_big_quiet_step ((first | fail)))
            refine wpQuiet_nil ?_
            rintro w' ⟨d, rfl⟩
            rw [lay_bw]
            obtain ⟨d3, e3⟩ : ∃ x, lay w [.inr d, .inr d2] = lay w [.inr x] := ⟨_, bw_bw _ _ _⟩
            have HO3 := Lib.hid (HO2.out.1.on (d := d))
            rw [e3] at HO3 ⊢
            clear e3 c1 c0
            go_wp2_with fail
            go_roundw
            case rel => exact ⟨i + 1, L, d3, by omega, by omega, by first | rfl | exact congrArg (Value.int .i64) (by omega), rfl, HO3.out, HO2.out.2.stop (.inr (by obtain ⟨rfl, rfl⟩ := HX.out; omega))⟩
            case measure => simp [intOf]; omega
    · obtain rfl : i = m := by omega
      have HR := Lib.hid (srtI_eq (hO.len ▸ hA).pair hO.perm)
      have HO := Lib.hid hO
      clear hO hA
      go_wp2_with fail
      go_ret
      exact ⟨_, dd, rfl, rfl, by rw [HR.out]; exact HO.out.own⟩
end Go.Proofs.YtmomoeagnkjbiaaGreat
/- The reference of average: Lower, distance. -/
namespace Go.Proofs.YtmomoeagnkjbiaaGreat
open Go.RowKit

set_option maxHeartbeats 2000000 in
set_option maxRecDepth 100000 in
theorem r23_Lower (v : Value) (l : List Int) (w : World) (hs : Sl w v l) (h1 : 1 ≤ l.length) (hn : l.length ≤ 1000000) :
    Calls Tryz.prog 48 #[v] w fun e w' => e = .returned (.int .i64 (medI l)) ∧ ∃ d, w' = bw w d := by
  have HS := Lib.hid (r23_Sorted v l w hs h1 hn)
  obtain ⟨b, o, cap, rfl, -⟩ := hs.open (by omega)
  have HL := Lib.hid (srtI_len l)
  obtain ⟨m, hm⟩ : ∃ m, l.length = m := ⟨_, rfl⟩
  obtain ⟨q, hq⟩ : ∃ q, (m - 1) / 2 = q := ⟨_, rfl⟩
  have hmed : medI l = nth (srtI l) q := by unfold medI; rw [hm, hq]
  rw [hmed]
  rw [hm] at HL HS h1 hn ⊢
  generalize srtI l = L at *
  obtain ⟨X, hX⟩ : ∃ X, X = nth L q := ⟨_, rfl⟩
  rw [← hX]
  have HX := Lib.hid hX
  have HQ : Hid (q < m) := Lib.hid (by omega)
  have k1 : IntKind.i64.wrap ((m : Int) - 1) = (m : Int) - 1 := IntWalk.i64_in _ (by omega)
  have k3 : ((m : Int) - 1).tdiv 2 = (q : Int) := by
    rw [Int.tdiv_eq_ediv_of_nonneg (by omega)]; omega
  have k2 : IntKind.i64.wrap (((m : Int) - 1).tdiv 2) = (q : Int) := by
    rw [k3, IntWalk.i64_in _ (by omega)]
  have x0 : (0 : Int) ≤ (q : Int) := by omega
  have x1 : (q : Int) < (m : Int) := by omega
  clear hs hq hX hmed hm
  refine lay_start ?_
  go_enter Tryz.func48, Tryz.ntmps48
  go_wp2_with fail
  refine HS.out.mono ?_
  rintro e w' ⟨v, d, rfl, rfl, hv⟩
  obtain ⟨g, c, hve, -, -, -⟩ := hv.form1 (by rw [HL.out]; omega)
  rw [HL.out] at hve
  subst hve
  have c1 := hv.cell (i := q) (by rw [HL.out]; exact HQ.out)
  rw [← HX.out] at c1
  have c2 : (lay w [.inr d]).cell? ⟨g, q, none⟩ = some (.int .i64 X) := c1
  rw [show bw w d = lay w [.inr d] from rfl]
  clear hv c1
  go_wp2_with fail
  go_ret
  exact ⟨rfl, lay_ex _ _⟩
set_option maxRecDepth 100000 in
theorem r23_distance (a b : Int) (w : World) (h : -4611686018427387904 ≤ a - b ∧ a - b ≤ 4611686018427387904) :
    Calls Tryz.prog 103 #[.int .i64 a, .int .i64 b] w fun e w' => e = .returned (.int .i64 (max (a - b) (-(a - b)))) ∧ ∃ d, w' = bw w d := by
  have k1 : IntKind.i64.wrap (a - b) = a - b := IntWalk.i64_in _ (by omega)
  have k2 : IntKind.i64.wrap (b - a) = b - a := IntWalk.i64_in _ (by omega)
  by_cases hab : a < b
  · rw [show max (a - b) (-(a - b)) = b - a by omega]
    refine lay_start ?_
    go_enter Tryz.func103, Tryz.ntmps103
    go_wp2_with fail
    go_ret
    exact ⟨rfl, lay_ex _ _⟩
  · rw [show max (a - b) (-(a - b)) = a - b by omega]
    refine lay_start ?_
    go_enter Tryz.func103, Tryz.ntmps103
    go_wp2_with fail
    go_ret
    exact ⟨rfl, lay_ex _ _⟩
end Go.Proofs.YtmomoeagnkjbiaaGreat
