/- Contracts and plain laws, several texts in one: PsR; Idf; Aud13; Ap5; OpG; OpQ -/
import Derived.Test.YtmmfkleplbofgaaGreatDoorProg
import Derived.WalkKit
import Derived.WalkSpells
import Derived.WalkLawsBesides
import Derived.Lib.Hide
import Derived.BigQuiet
import Derived.Deep.Slices
import Derived.Deep.Fields
import Derived.ChangeSame
import Derived.WideShapes
import Derived.ChangeShapes
import Derived.Lib.SmallJoins
import Derived.Test.YtmmfkleplbofgaaGreatDoorBAA
import Derived.Test.YtmmfkleplbofgaaGreatDoorBAB
import Derived.Test.YtmmfkleplbofgaaGreatDoorBAD
import Derived.Test.YtmmfkleplbofgaaGreatDoorBAH
import Derived.Test.YtmmfkleplbofgaaGreatDoorBAI
import Derived.Test.YtmmfkleplbofgaaGreatDoorBAJ
import Derived.Test.YtmmfkleplbofgaaGreatDoorBAK
import Derived.Test.YtmmfkleplbofgaaGreatDoorBAQ
/- Rows of strings; slices.Equal on them (without the almanac's texts). -/
namespace Go.Proofs.YtmmfkleplbofgaaGreatDoor
open Go.RowKit Go.Sort

theorem bw_drewN' (w : World) (q : Nat) : ∃ d, w.drewN q = bw w d := ⟨⟨#[], w.drawn + q⟩, by
  show w.drewN q = { w with heap := w.heap ++ #[], drawn := w.drawn + q }
  rw [Array.append_empty]; rfl⟩
theorem str_cells {w : World} {b o n c : Nat} {l : List ByteArray} (h : SlG strR w (.slice (some ⟨b, o, none⟩) n c) l) : ∀ j, j < l.length → w.cell? ⟨b, o + j, none⟩ = some (.string (l.getD j ByteArray.empty)) := fun j hj => by
  have hx : l[j]? = some (l.getD j ByteArray.empty) := by simp [List.getD, hj]
  have := slG_get h hx (j := 0) (u := .string (l.getD j ByteArray.empty)) rfl
  simpa [strR] using this
theorem str_Equal (v1 v2 : Value) (l1 l2 : List ByteArray) (w : World) (h1 : SlG strR w v1 l1) (h2 : SlG strR w v2 l2) :
    Calls Tryz.prog 9 #[v1, v2] w fun e w' => e = .returned (.bool (decide (l1 = l2))) ∧ ∃ d, w' = bw w d := by
  have hn : ∃ d, w = bw w d := lay_ex w []
  by_cases hl : l1 = []
  · subst hl
    obtain ⟨a, cap, rfl, -⟩ := h1
    obtain ⟨a2, cap2, rfl, hc2, -⟩ := h2
    refine (Tryz.slices_Equal_string_empty a a2 cap l2.length cap2 w (by omega)).mono fun e w' ⟨h1, h2⟩ => ⟨?_, by rw [h2]; exact hn⟩
    rw [h1]
    refine ret_bool ?_
    rw [Bool.eq_iff_iff]; simp only [decide_eq_true_eq]
    constructor
    · intro h; exact (List.eq_nil_of_length_eq_zero h).symm
    · intro h; rw [← h]; rfl
  · by_cases hlen : l1.length = l2.length
    · have h0 : 0 < l1.length := List.length_pos_iff.2 hl
      obtain ⟨b, o, cap, rfl, hc, _, _⟩ := h1.open h0
      obtain ⟨b2, o2, cap2, rfl, hc2, _, _⟩ := h2.open (by omega)
      have := Tryz.slices_Equal_string b o l1.length cap b2 o2 l2.length cap2 l1 l2 w (Nat.le_refl _) (Nat.le_refl _) (by omega) (by omega) (str_cells h1) (str_cells h2)
      rw [List.take_length, List.take_length] at this
      exact this.mono fun e w' ⟨h1, q, h2⟩ => ⟨h1, by rw [h2]; exact bw_drewN' w q⟩
    · obtain ⟨a, cap, rfl, hc, -⟩ := h1
      obtain ⟨a2, cap2, rfl, hc2, -⟩ := h2
      refine (Tryz.slices_Equal_string_lens a a2 l1.length cap l2.length cap2 w hlen).mono fun e w' ⟨h1, h2⟩ => ⟨?_, by rw [h2]; exact hn⟩
      rw [h1]
      exact ret_bool (by rw [Bool.eq_iff_iff]; simp; intro h; exact absurd (by rw [h]) hlen)
end Go.Proofs.YtmmfkleplbofgaaGreatDoor
/- slices.IndexFunc and ContainsFunc over pages and tracks, for whatever closure. -/
namespace Go.Proofs.YtmmfkleplbofgaaGreatDoor
open Go.RowKit

set_option maxHeartbeats 1000000 in
theorem tk_IndexFunc (g : FuncId) (lb : List Value) (p : TkW → Bool) (v : Value) (l : List TkW) (w : World) (hv : SlG tkR w v l)
    (eI : ∀ args w, (callFunc g args).run Tryz.prog w = .ok (.enter g args) w)
    (hf : ∀ x ∈ l, ∀ d, Calls Tryz.prog g (.agg (tkR.enc x).toArray :: lb).toArray (bw w d) fun e w' => e = .returned (.bool (p x)) ∧ ∃ d, w' = bw w d) :
    Calls Tryz.prog 15 #[v, .func (.func g) #[] lb.toArray] w (IdxPostT w (idxR p l 0)) := by
  by_cases hz : l = []
  · subst hz
    obtain ⟨a, cap, rfl⟩ := hv.form
    clear hf
    refine lay_start ?_
    go_enter Tryz.func15, Tryz.ntmps15
    go_wp2_with fail
    refine wp_loop_rounds 1 ?_
    rw [rounds_succ]
    go_wp2
    go_ret
    exact ⟨rfl, lay_ex _ _⟩
  · obtain ⟨b, o, cap, rfl, hc, hb, hr⟩ := hv.open (List.length_pos_iff.2 hz)
    obtain ⟨m, hm⟩ : ∃ m, l.length = m := ⟨_, rfl⟩
    have HF := Lib.hid hf
    have HM := Lib.hid hm
    rw [hm] at hc ⊢
    have HR : Hid (∀ i x, l[i]? = some x → w.cell? ⟨b, o + i * 6, none⟩ = some (.string x.s) ∧ w.cell? ⟨b, o + i * 6 + 1, none⟩ = some (.slice x.ga x.gn x.gc) ∧ w.cell? ⟨b, o + i * 6 + 2, none⟩ = some (.slice x.da x.dn x.dc) ∧ w.cell? ⟨b, o + i * 6 + 3, none⟩ = some (.int .i64 x.p) ∧ w.cell? ⟨b, o + i * 6 + 4, none⟩ = some (.int .i64 x.q) ∧ w.cell? ⟨b, o + i * 6 + 5, none⟩ = some (.int .i64 x.r)) :=
      Lib.hid (fun i x hx => ⟨hr i x hx 0 _ rfl, hr i x hx 1 _ rfl, hr i x hx 2 _ rfl, hr i x hx 3 _ rfl, hr i x hx 4 _ rfl, hr i x hx 5 _ rfl⟩)
    clear hf hz hm hr hv
    refine lay_start ?_
    go_enter Tryz.func15, Tryz.ntmps15
    go_wp2_with fail
    go_loopw [8] (fun i wr => ∃ (k : Nat) (d : Ext), k ≤ m ∧ i = .int .i64 k ∧ wr = lay w [.inr d] ∧ idxR p l 0 = idxR p (l.drop k) k) (fun i _ => m - (intOf i).toNat)
    case atStart => exact ⟨0, noExt _, Nat.zero_le _, rfl, (bw_noExt _).symm, rfl⟩
    case round =>
      obtain ⟨k, d, hk, rfl, rfl, hA⟩ := hrel
      have HA := Lib.hid hA
      clear hA
      by_cases hlt : k < m
      · obtain ⟨x, hx⟩ : ∃ x, l[k]? = some x := ⟨_, List.getElem?_eq_getElem (by rw [HM.out]; exact hlt)⟩
        obtain ⟨e0, e1, e2, e3, e4, e5⟩ := HR.out k x hx
        have H1 : Hid (Calls Tryz.prog g (.agg #[.string x.s, .slice x.ga x.gn x.gc, .slice x.da x.dn x.dc, .int .i64 x.p, .int .i64 x.q, .int .i64 x.r] :: lb).toArray (lay w [.inr d]) fun e w' => e = .returned (.bool (p x)) ∧ ∃ d, w' = bw w d) := Lib.hid (HF.out x (List.mem_of_getElem? hx) d)
        cases ho : p x
        · have HN := Lib.hid (idxR_miss hx ho HA.out)
          rw [ho] at H1
          clear ho hx
          obtain ⟨y0, y1, y2, y3, y4, y5, y6, y7, y8, y9⟩ := x
          dsimp only at e0 e1 e2 e3 e4 e5 H1
          go_wp2_with (refine H1.out.mono ?_; rintro e w' ⟨rfl, d1, rfl⟩)
          go_roundw
          case rel => exact ⟨k + 1, d1, by omega, by go_num, rfl, HN.out⟩
          case measure => simp [intOf]; omega
        · have HN := Lib.hid (idxR_got hx ho HA.out)
          rw [ho] at H1
          clear ho hx
          obtain ⟨y0, y1, y2, y3, y4, y5, y6, y7, y8, y9⟩ := x
          dsimp only at e0 e1 e2 e3 e4 e5 H1
          go_wp2_with (refine H1.out.mono ?_; rintro e w' ⟨rfl, d1, rfl⟩)
          go_ret
          exact ⟨ret_int HN.out, d1, rfl⟩
      · have HN := Lib.hid (idxR_end (k := k) (by rw [HM.out]; omega) HA.out)
        go_wp2
        go_ret
        exact ⟨ret_int HN.out, lay_ex _ _⟩
set_option maxHeartbeats 1000000 in
theorem tk_ContainsFunc (g : FuncId) (lb : List Value) (p : TkW → Bool) (v : Value) (l : List TkW) (w : World) (hv : SlG tkR w v l)
    (eI : ∀ args w, (callFunc g args).run Tryz.prog w = .ok (.enter g args) w)
    (hf : ∀ x ∈ l, ∀ d, Calls Tryz.prog g (.agg (tkR.enc x).toArray :: lb).toArray (bw w d) fun e w' => e = .returned (.bool (p x)) ∧ ∃ d, w' = bw w d) :
    Calls Tryz.prog 5 #[v, .func (.func g) #[] lb.toArray] w fun e w' => e = .returned (.bool (l.any p)) ∧ ∃ d, w' = bw w d := by
  have H := Lib.hid (tk_IndexFunc g lb p v l w hv eI hf)
  have HS := Lib.hid (idxR_any p l 0)
  generalize idxR p l 0 = x at *
  generalize l.any p = y at *
  clear hf eI hv
  refine lay_start ?_
  go_enter Tryz.func5, Tryz.ntmps5
  go_wp2_with (go_at_call 15; refine H.out.mono ?_; rintro e w' ⟨rfl, d, rfl⟩)
  go_ret
  exact ⟨ret_bool HS.out, _, rfl⟩
end Go.Proofs.YtmmfkleplbofgaaGreatDoor
/- The law's examples (awake); many. -/
namespace Go.Proofs.YtmmfkleplbofgaaGreatDoor
open Go.RowKit

theorem sl_lit {w : World} {L : List (Obj ⊕ Ext)} {cs : Array Value} (l : List Int) (hc : cs.toList = l.map (Value.int .i64)) (hl : l.length ≤ 1000) (hw : ∀ i, i < l.length → (Lit.int .i64 (nth l i)).wf = true) :
    Sl (lay w (.inl (.cells cs 3 (0, 0)) :: L)) (.slice (some ⟨posn w (shp L), 0, none⟩) l.length l.length) l := by
  rw [← lay_size w L]
  refine Ow.sl (base := (lay w L).heap.size) ⟨?_, hw⟩
  have := World.ownsRow_lit (base := (lay w L).heap.size) (e := 3) (size := 1) (lay w L) cs l.length (Nat.le_refl _) (by unfold maxLen; omega) (by rw [← Array.length_toList, hc]; simp)
  rw [hc] at this
  exact this
theorem wf_all {l : List Int} (h : l.all (fun x => (Lit.int .i64 x).wf) = true) : ∀ i, i < l.length → (Lit.int .i64 (nth l i)).wf = true := fun _ hi => List.all_eq_true.1 h _ (nth_mem hi)
theorem diff_eg {v : Value} {l : List Int} {wr : Bool} {order : Int} {r : List Int} {w : World} (hs : Sl w v l) (h : difE wr l order = 0 ∧ dfL wr l order = r) :
    Calls Tryz.prog 11 #[v, .int .i64 order, .bool wr] w (RwE w r 0) := by
  have := aud_Diff v l wr order w hs
  rw [h.1, h.2] at this; exact this
theorem sl_EqualT (v1 v2 : Value) (l : List Int) (w : World) (h1 : Sl w v1 l) (h2 : Sl w v2 l) : Calls Tryz.prog 14 #[v1, v2] w fun e w' => e = .returned (.bool true) ∧ ∃ d, w' = bw w d := by
  have := sl_Equal v1 v2 l l w h1 h2
  rw [decide_eq_true rfl] at this
  exact this
theorem awake_d1 (v : Value) (w : World) (hs : Sl w v [0, 1, 4, 9]) : Calls Tryz.prog 11 #[v, .int .i64 2, .bool false] w (RwE w [2, 2] 0) := diff_eg (l := [0, 1, 4, 9]) (wr := false) (order := 2) (r := [2, 2]) hs eg_d1
theorem awake_d2 (v : Value) (w : World) (hs : Sl w v [215990, 10, 30]) : Calls Tryz.prog 11 #[v, .int .i64 1, .bool true] w (RwE w [20, 20] 0) := diff_eg (l := [215990, 10, 30]) (wr := true) (order := 1) (r := [20, 20]) hs eg_d2
theorem awake_l1 (w : World) (L : List (Obj ⊕ Ext)) : Sl (lay w (.inl (.cells #[.int .i64 0, .int .i64 1, .int .i64 4, .int .i64 9] 3 (0, 0)) :: L)) (.slice (some ⟨posn w (shp L), 0, none⟩) 4 4) [0, 1, 4, 9] := sl_lit [0, 1, 4, 9] rfl (by decide) (wf_all (by decide))
theorem awake_l2 (w : World) (L : List (Obj ⊕ Ext)) : Sl (lay w (.inl (.cells #[.int .i64 10, .int .i64 20, .int .i64 30, .int .i64 45, .int .i64 50, .int .i64 60] 3 (0, 0)) :: L)) (.slice (some ⟨posn w (shp L), 0, none⟩) 6 6) [10, 20, 30, 45, 50, 60] := sl_lit [10, 20, 30, 45, 50, 60] rfl (by decide) (wf_all (by decide))
theorem awake_l3 (w : World) (L : List (Obj ⊕ Ext)) : Sl (lay w (.inl (.cells #[.int .i64 215990, .int .i64 10, .int .i64 30] 3 (0, 0)) :: L)) (.slice (some ⟨posn w (shp L), 0, none⟩) 3 3) [215990, 10, 30] := sl_lit [215990, 10, 30] rfl (by decide) (wf_all (by decide))
theorem awake_l4 (w : World) (L : List (Obj ⊕ Ext)) : Sl (lay w (.inl (.cells #[.int .i64 2, .int .i64 2] 3 (0, 0)) :: L)) (.slice (some ⟨posn w (shp L), 0, none⟩) 2 2) [2, 2] := sl_lit [2, 2] rfl (by decide) (wf_all (by decide))
theorem awake_l5 (w : World) (L : List (Obj ⊕ Ext)) : Sl (lay w (.inl (.cells #[.int .i64 39, .int .i64 40, .int .i64 41] 3 (0, 0)) :: L)) (.slice (some ⟨posn w (shp L), 0, none⟩) 3 3) [39, 40, 41] := sl_lit [39, 40, 41] rfl (by decide) (wf_all (by decide))
theorem awake_l6 (w : World) (L : List (Obj ⊕ Ext)) : Sl (lay w (.inl (.cells #[.int .i64 20, .int .i64 20] 3 (0, 0)) :: L)) (.slice (some ⟨posn w (shp L), 0, none⟩) 2 2) [20, 20] := sl_lit [20, 20] rfl (by decide) (wf_all (by decide))
theorem awake_p (v : Value) (w : World) (hs : Sl w v [10, 20, 30, 45, 50, 60]) : Calls Tryz.prog 12 #[v, .int .i64 0, .bool false] w fun e w' => e = .returned (.tuple #[.bool false, .int .i64 2, .int .i64 0]) ∧ ∃ d, w' = bw w d := by
  have := aud_Possible v [10, 20, 30, 45, 50, 60] false 0 w hs
  rw [eg_p.1, eg_p.2.1, eg_p.2.2] at this
  exact this
theorem awake_r (v : Value) (w : World) (hs : Sl w v [10, 20, 30, 45, 50, 60]) : Calls Tryz.prog 13 #[v, .int .i64 0, .int .i64 3, .bool false] w (RwE w [39, 40, 41] 0) := by
  have := aud_Repair v [10, 20, 30, 45, 50, 60] false 0 3 w hs
  rw [eg_r.1, eg_r.2] at this
  exact this
set_option maxHeartbeats 1000000 in
set_option maxRecDepth 100000 in
theorem law15_awake (w : World) :
    Calls Tryz.prog 4 #[] w fun e w' => e = .returned (.bool true) ∧ ∃ d, w' = bw w d := by
  refine lay_start ?_
  go_enter Tryz.func4, Tryz.ntmps4
  go_wp2_with fail
  refine (awake_d1 _ _ (awake_l1 w [])).mono ?_
  rintro e w' ⟨v1, d1, rfl, rfl, h1⟩
  rw [lay_bw] at h1 ⊢
  have H1 := Lib.hid h1
  clear h1
  go_wp2_with fail
  refine (awake_p _ _ (awake_l2 w [.inr d1, .inl (.cells #[.int .i64 0, .int .i64 1, .int .i64 4, .int .i64 9] 3 (0, 0))])).mono ?_
  rintro e w' ⟨rfl, d2, rfl⟩
  rw [lay_bw]
  go_wp2_with fail
  refine (awake_r _ _ (sl_on (A := [.inr d2]) (awake_l2 w [.inr d1, .inl (.cells #[.int .i64 0, .int .i64 1, .int .i64 4, .int .i64 9] 3 (0, 0))]))).mono ?_
  rintro e w' ⟨v3, d3, rfl, rfl, h3⟩
  rw [lay_bw] at h3 ⊢
  have H3 := Lib.hid h3
  clear h3
  go_wp2_with fail
  refine (awake_d2 _ _ (awake_l3 w [.inr d3, .inr d2, .inl (.cells #[.int .i64 10, .int .i64 20, .int .i64 30, .int .i64 45, .int .i64 50, .int .i64 60] 3 (0, 0)), .inr d1, .inl (.cells #[.int .i64 0, .int .i64 1, .int .i64 4, .int .i64 9] 3 (0, 0))])).mono ?_
  rintro e w' ⟨v4, d4, rfl, rfl, h4⟩
  rw [lay_bw] at h4 ⊢
  have H4 := Lib.hid h4
  clear h4
  go_wp2_with fail
  refine (sl_EqualT _ _ [2, 2] _ (sl_on (A := [_, _, _, _, _, _]) H1.out.sl) (awake_l4 w [.inr d4, .inl (.cells #[.int .i64 215990, .int .i64 10, .int .i64 30] 3 (0, 0)), .inr d3, .inr d2, .inl (.cells #[.int .i64 10, .int .i64 20, .int .i64 30, .int .i64 45, .int .i64 50, .int .i64 60] 3 (0, 0)), .inr d1, .inl (.cells #[.int .i64 0, .int .i64 1, .int .i64 4, .int .i64 9] 3 (0, 0))])).mono ?_
  rintro e w' ⟨rfl, d5, rfl⟩
  rw [lay_bw]
  go_wp2_with fail
  refine (sl_EqualT _ _ [39, 40, 41] _ (sl_on (A := [_, _, _, _, _]) H3.out.sl) (awake_l5 w [.inr d5, .inl (.cells #[.int .i64 2, .int .i64 2] 3 (0, 0)), .inr d4, .inl (.cells #[.int .i64 215990, .int .i64 10, .int .i64 30] 3 (0, 0)), .inr d3, .inr d2, .inl (.cells #[.int .i64 10, .int .i64 20, .int .i64 30, .int .i64 45, .int .i64 50, .int .i64 60] 3 (0, 0)), .inr d1, .inl (.cells #[.int .i64 0, .int .i64 1, .int .i64 4, .int .i64 9] 3 (0, 0))])).mono ?_
  rintro e w' ⟨rfl, d6, rfl⟩
  rw [lay_bw]
  go_wp2_with fail
  refine (sl_EqualT _ _ [20, 20] _ (sl_on (A := [_, _, _, _, _]) H4.out.sl) (awake_l6 w [.inr d6, .inl (.cells #[.int .i64 39, .int .i64 40, .int .i64 41] 3 (0, 0)), .inr d5, .inl (.cells #[.int .i64 2, .int .i64 2] 3 (0, 0)), .inr d4, .inl (.cells #[.int .i64 215990, .int .i64 10, .int .i64 30] 3 (0, 0)), .inr d3, .inr d2, .inl (.cells #[.int .i64 10, .int .i64 20, .int .i64 30, .int .i64 45, .int .i64 50, .int .i64 60] 3 (0, 0)), .inr d1, .inl (.cells #[.int .i64 0, .int .i64 1, .int .i64 4, .int .i64 9] 3 (0, 0))])).mono ?_
  rintro e w' ⟨rfl, d7, rfl⟩
  rw [lay_bw]
  go_wp2
  go_ret
  exact ⟨rfl, lay_ex _ _⟩
def manyB (n : Nat) : Bool := decide (60 < n) && decide (n ≤ 1000) || decide (1100 < n)
end Go.Proofs.YtmmfkleplbofgaaGreatDoor
/- The law AuditPages. -/
namespace Go.Proofs.YtmmfkleplbofgaaGreatDoor
open Go.RowKit Go.Maps

def lgW (x : TkW) : Bool := decide ((60 : Int) < (x.gn : Int)) || decide ((60 : Int) < (x.dn : Int)) || decide ((100 : Int) < (x.s.size : Int))
set_option maxHeartbeats 1000000 in
theorem law15_closure (x : TkW) (w : World) :
    Calls Tryz.prog 6 #[.agg #[.string x.s, .slice x.ga x.gn x.gc, .slice x.da x.dn x.dc, .int .i64 x.p, .int .i64 x.q, .int .i64 x.r]] w fun e w' => e = .returned (.bool (lgW x)) ∧ ∃ d, w' = bw w d := by
  obtain ⟨xs, ga, gn, gc, da, dn, dc, xp, xq, xr⟩ := x
  unfold lgW
  dsimp only
  by_cases a1 : (60 : Int) < (gn : Int)
  · rw [decide_eq_true a1]
    refine lay_start ?_
    go_enter Tryz.func6, Tryz.ntmps6
    go_wp2
    go_ret
    exact ⟨rfl, lay_ex _ _⟩
  · rw [decide_eq_false a1]
    by_cases a2 : (60 : Int) < (dn : Int)
    · rw [decide_eq_true a2]
      refine lay_start ?_
      go_enter Tryz.func6, Tryz.ntmps6
      go_wp2
      go_ret
      exact ⟨rfl, lay_ex _ _⟩
    · rw [decide_eq_false a2]
      refine lay_start ?_
      go_enter Tryz.func6, Tryz.ntmps6
      go_wp2
      go_ret
      exact ⟨by simp, lay_ex _ _⟩
theorem law15_any {P : Nat → Prop} (v : Value) (l : List TrkV) (w : World) (hv : TksD P w v l) :
    ∃ b : Bool, ∀ W, Below w.heap.size w W → Calls Tryz.prog 5 #[v, .func (.func 6) #[] #[]] W fun e w' => e = .returned (.bool b) ∧ ∃ d, w' = bw W d := by
  obtain ⟨ls, h1, -⟩ := hv
  have eI : ∀ args w, (callFunc 6 args).run Tryz.prog w = .ok (.enter 6 args) w := enters_of Tryz.func6 (by kernel_rfl) rfl
  exact ⟨ls.any lgW, fun W hW => tk_ContainsFunc 6 [] lgW v ls W (h1.ext hW) eI fun x hx d => (law15_closure x (bw W d)).mono fun e w' ⟨a, b, c⟩ => ⟨a, _, c.trans (bw_bw _ _ _)⟩⟩
theorem aud_Page {P : Nat → Prop} (y m d : Int) (v : Value) (l : List TrkV) (w : World) (hv : TksD P w v l) :
    Calls Tryz.prog 7 #[.agg #[.int .i64 y, .int .i64 m, .int .i64 d, v]] w (PgE w (if pgB ⟨y, m, d, l⟩ = true then 0 else 1) (if pgB ⟨y, m, d, l⟩ = true then tsL l else [])) := by
  cases hp : pgB ⟨y, m, d, l⟩
  · exact aud_Page_no y m d v l w hv hp
  · by_cases hz : l = []
    · subst hz; exact aud_Page_nil y m d v w hv hp
    · exact aud_Page_ok y m d v l w hv hp hz
theorem ref_Page {P : Nat → Prop} (y m d : Int) (v : Value) (l : List TrkV) (w : World) (hv : TksD P w v l) :
    Calls Tryz.prog 8 #[.agg #[.int .i64 y, .int .i64 m, .int .i64 d, v]] w (PgE w (if pgB ⟨y, m, d, l⟩ = true then 0 else 1) (if pgB ⟨y, m, d, l⟩ = true then tsL l else [])) := by
  cases hp : pgB ⟨y, m, d, l⟩
  · exact ref_Page_no y m d v l w hv hp
  · by_cases hz : l = []
    · subst hz; exact ref_Page_nil y m d v w hv hp
    · exact ref_Page_ok y m d v l w hv hp hz
set_option maxHeartbeats 4000000 in
set_option maxRecDepth 100000 in
theorem law15_AuditPages {P : Nat → Prop} (y m d : Int) (v : Value) (l : List TrkV) (w : World) (hv : TksD P w v l) :
    Calls Tryz.prog 3 #[.agg #[.int .i64 y, .int .i64 m, .int .i64 d, v]] w fun e w' => e = .returned (.bool true) ∧ ∃ d, w' = bw w d := by
  have HA := Lib.hid (fun W => law15_awake W)
  have HP := Lib.hid (fun W (h : TksD P W v l) => aud_Page y m d v l W h)
  have HQ := Lib.hid (fun W (h : TksD P W v l) => ref_Page y m d v l W h)
  have HV := Lib.hid (fun W (h : TksD P W v l) => ref13_Valid y m d v l W h)
  have HE := Lib.hid (fun (L : List ByteArray) v1 v2 W (h1 : SlG strR W v1 L) (h2 : SlG strR W v2 L) => (str_Equal v1 v2 L L W h1 h2).mono (R' := fun e w' => e = .returned (.bool true) ∧ ∃ d, w' = bw W d) fun e w' ⟨a, b⟩ => ⟨by rw [a]; simp, b⟩)
  have HT := Lib.hid hv
  obtain ⟨b, hb⟩ := law15_any v l w hv
  have HB := Lib.hid (fun L => hb (lay w L) (lay_extends w L))
  obtain ⟨a, c, rfl⟩ := hv.form
  clear hv hb
  generalize l.length = n at *
  have hpc : (if pgB ⟨y, m, d, l⟩ = true then (0 : Int) else 1) = 0 ∧ pgB ⟨y, m, d, l⟩ = true ∨ (if pgB ⟨y, m, d, l⟩ = true then (0 : Int) else 1) = 1 ∧ pgB ⟨y, m, d, l⟩ = false := by
    cases pgB ⟨y, m, d, l⟩ <;> simp
  generalize (if pgB ⟨y, m, d, l⟩ = true then (0 : Int) else 1) = E at *
  generalize (if pgB ⟨y, m, d, l⟩ = true then tsL l else []) = L at *
  generalize pgB ⟨y, m, d, l⟩ = G at *
  by_cases hn : (20 : Int) < (n : Int)
  · refine lay_start ?_
    go_enter Tryz.func3, Tryz.ntmps3
    go_wp2_with (go_at_call 4; refine (HA.out _).mono ?_; rintro e w' ⟨rfl, d1, rfl⟩; rw [lay_bw])
    go_ret
    exact ⟨rfl, lay_ex _ _⟩
  · have hd : decide ((20 : Int) < (n : Int)) = false := decide_eq_false hn
    cases b
    · refine lay_start ?_
      go_enter Tryz.func3, Tryz.ntmps3
      go_wp2_with (first | (go_at_call 4; refine (HA.out _).mono ?_; rintro e w' ⟨rfl, d1, rfl⟩; rw [lay_bw]) | (go_at_call 5; refine (HB.out _).mono ?_; rintro e w' ⟨rfl, d2, rfl⟩; rw [lay_bw]))
      go_wp2_with fail
      refine (HP.out _ (HT.out.lay _)).mono ?_
      rintro e w' ⟨v1, d3, rfl, rfl, h1⟩
      rw [lay_bw] at h1 ⊢
      have H1 := Lib.hid h1
      clear h1
      go_wp2_with fail
      refine (HQ.out _ (HT.out.lay _)).mono ?_
      rintro e w' ⟨v2, d4, rfl, rfl, h2⟩
      rw [lay_bw] at h2 ⊢
      have H2 := Lib.hid h2
      clear h2
      go_wp2_with fail
      refine (HE.out L _ _ _ (slG_on (A := [_]) H1.out) H2.out).mono ?_
      rintro e w' ⟨rfl, d5, rfl⟩
      rw [lay_bw]
      simp only [List.cons_append, List.nil_append]
      rcases hpc with ⟨rfl, rfl⟩ | ⟨rfl, rfl⟩
      · go_wp2_with (go_at_call 10; refine (HV.out _ (HT.out.lay _)).mono ?_; rintro e w' ⟨rfl, d6, rfl⟩; rw [lay_bw])
        go_ret
        exact ⟨rfl, lay_ex _ _⟩
      · go_wp2_with (go_at_call 10; refine (HV.out _ (HT.out.lay _)).mono ?_; rintro e w' ⟨rfl, d6, rfl⟩; rw [lay_bw])
        go_ret
        exact ⟨rfl, lay_ex _ _⟩
    · refine lay_start ?_
      go_enter Tryz.func3, Tryz.ntmps3
      go_wp2_with (first | (go_at_call 4; refine (HA.out _).mono ?_; rintro e w' ⟨rfl, d1, rfl⟩; rw [lay_bw]) | (go_at_call 5; refine (HB.out _).mono ?_; rintro e w' ⟨rfl, d2, rfl⟩; rw [lay_bw]))
      go_ret
      exact ⟨rfl, lay_ex _ _⟩
end Go.Proofs.YtmmfkleplbofgaaGreatDoor
/- A slice of records off an argument: whatever the record is. -/
namespace Go.Proofs.YtmmfkleplbofgaaGreatDoor
open Go.RowKit

theorem addO_block (a : Addr) (n : Nat) : (a.add n).block = a.block := by
  unfold Addr.add; split <;> rfl
theorem addO_none {a : Addr} (h : a.spot = none) (n : Nat) : a.add n = ⟨a.block, a.off + n, none⟩ := by
  unfold Addr.add
  split
  · rename_i h0
    have : n = 0 := by simpa using h0
    subst this
    cases a; simp_all
  · rfl
section
variable {H : Type} {enc : TypeId × Value → H} {α : Type} {R : RecT α} {P : Program}
/-- A slice of records off its reading: what 'hel' says of an element's cells holds of each record. -/
theorem slG_of (hR : RecOk R) (ht : P.underlying R.S = some (.slice R.E)) (hC : P.cellsOf R.E = R.k) {w : World} {Q : α → Prop} {fuel : Nat} {v : Value} {x : DataW H × List MemPlace}
    (hel : ∀ n cs y, DataW.trod enc P w 0 (fun _ => true) true n R.E cs = some y → cs.length = R.k → ∃ z, cs = R.enc z ∧ R.wf z ∧ Q z)
    (hf : DataW.trod enc P w 0 (fun _ => true) true fuel R.S [v] = some x) : ∃ l, SlG R w v l ∧ ∀ z ∈ l, Q z := by
  have hM : maxLen = 9223372036854775807 := by decide
  rcases Go.Deep.open_slice ht hf with ⟨hcs, _⟩ | ⟨a', len', cap', m, n, D, Pl, hcs, hb, hl, hm, hmm, hx, hel'⟩
  · obtain rfl : v = .slice none 0 0 := by simpa using hcs
    exact ⟨[], SlG.nil R w, fun z hz => absurd hz List.not_mem_nil⟩
  · obtain rfl : v = .slice (some a') len' cap' := by simpa using hcs
    simp only [if_true] at hmm
    subst hmm
    have hex : ∀ i : Nat, i < m → ∃ z : α, R.wf z ∧ Q z ∧ (∀ (j : Nat) u, (R.enc z)[j]? = some u → w.cell? ((a'.add (i * R.k)).add j) = some u) ∧ ((a'.add (i * R.k)).block < w.heap.size) := fun i him => by
      obtain ⟨cs', hc', ht'⟩ := hel' i him
      rw [hC] at hc'
      have hblk := World.cells?_block hc' hR.pos
      obtain ⟨_, hcl, hat⟩ := World.cells?_some hc'
      obtain ⟨z, rfl, hz, hq⟩ := hel _ _ _ ht' hcl
      refine ⟨z, hz, hq, fun j u hu => ?_, hblk⟩
      have hj : j < R.k := by rw [← hcl]; exact (List.getElem?_eq_some_iff.1 hu).1
      rw [hat j hj, hu]
    by_cases hz : len' = 0
    · subst hz
      exact ⟨[], slG_none (by omega), fun z hz => absurd hz List.not_mem_nil⟩
    · obtain ⟨z0, _, _, h0, hb0⟩ := hex 0 (by omega)
      have hspot : a'.spot = none := by
        have hlen := hR.len z0
        have hp := hR.pos
        obtain ⟨u, hu⟩ : ∃ u, (R.enc z0)[0]? = some u := ⟨_, List.getElem?_eq_getElem (by omega)⟩
        have := h0 0 u hu
        unfold World.cell? at this
        cases hs : a'.spot
        · rfl
        · simp [Addr.add, hs] at this
          try (split at this <;> simp at this)
      have hbl : a'.block < w.heap.size := by simpa [addO_block] using hb0
      have : Nonempty α := ⟨z0⟩
      have hch : ∃ f : Nat → α, ∀ i, i < len' → R.wf (f i) ∧ Q (f i) ∧ ∀ (j : Nat) u, (R.enc (f i))[j]? = some u → w.cell? ⟨a'.block, a'.off + (i * R.k + j), none⟩ = some u := by
        have : ∀ i, ∃ z : α, i < len' → R.wf z ∧ Q z ∧ ∀ (j : Nat) u, (R.enc z)[j]? = some u → w.cell? ⟨a'.block, a'.off + (i * R.k + j), none⟩ = some u := fun i => by
          by_cases hi : i < len'
          · obtain ⟨z, k1, k2, k3, _⟩ := hex i (by omega)
            refine ⟨z, fun _ => ⟨k1, k2, fun j u hu => ?_⟩⟩
            have := k3 j u hu
            rw [addO_none hspot, addO_none (by rfl)] at this
            simpa [Nat.add_assoc] using this
          · exact ⟨z0, fun h => absurd h hi⟩
        exact ⟨fun i => Classical.choose (this i), fun i hi => Classical.choose_spec (this i) hi⟩
      obtain ⟨f, hF⟩ := hch
      have hlen : ((List.range len').map f).length = len' := by simp
      refine ⟨(List.range len').map f, ⟨some a', m, by rw [hlen], by rw [hlen]; omega, fun z hz => ?_, fun _ => ⟨a'.block, a'.off, by cases a'; simp_all, hbl, fun i z hz j u hu => ?_⟩⟩, fun z hz => ?_⟩
      · obtain ⟨i, hi, rfl⟩ := List.mem_map.1 hz
        exact (hF i (List.mem_range.1 hi)).1
      · have hi : i < len' := by have := (List.getElem?_eq_some_iff.1 hz).1; simpa using this
        have : z = f i := by
          rw [List.getElem?_map, List.getElem?_range hi] at hz
          simpa using hz.symm
        subst this
        exact (hF i hi).2.2 j u hu
      · obtain ⟨i, hi, rfl⟩ := List.mem_map.1 hz
        exact (hF i (List.mem_range.1 hi)).2.1
/-- A slice of records off an argument. -/
theorem slG_arg (hR : RecOk R) (ht : P.underlying R.S = some (.slice R.E)) (hC : P.cellsOf R.E = R.k) {w : World} {r : Reach} {b0 : Nat} {Q : α → Prop} {v : Value} {d : DataW H} {ps : List MemPlace}
    (hel : ∀ n cs y, DataW.trod enc P w 0 (fun _ => true) true n R.E cs = some y → cs.length = R.k → ∃ z, cs = R.enc z ∧ R.wf z ∧ Q z)
    (hv : Value.okWide P w r b0 R.S v) (h : DataW.Trod enc P w 0 (fun _ => true) true R.S v d ps) : ∃ l, SlG R w v l ∧ ∀ z ∈ l, Q z := by
  obtain ⟨a, len, cap, rfl⟩ := Go.WideShapes.okWide_slice ht hv
  obtain ⟨fuel, hf⟩ := h
  exact slG_of hR ht hC hel (by simpa [Value.cells] using hf)

end
end Go.Proofs.YtmmfkleplbofgaaGreatDoor
/- Opening a page off an argument (without the almanac's texts). -/
namespace Go.Proofs.YtmmfkleplbofgaaGreatDoor
open Go.RowKit

section
variable {H : Type} {enc : TypeId × Value → H} {P : Program}
theorem blk_true (v : Value) : Blk (fun _ => True) v := fun _ _ _ _ _ _ => trivial
theorem list_of_fn {α β : Type} (ls : List α) (Q : α → β → Prop) (h : ∀ z ∈ ls, ∃ t, Q z t) : ∃ l : List β, ls.length = l.length ∧ ∀ (i : Nat) x t, ls[i]? = some x → l[i]? = some t → Q x t := by
  induction ls with
  | nil => exact ⟨[], rfl, fun i x t hx => by simp at hx⟩
  | cons z ls ih =>
    obtain ⟨t, ht⟩ := h z (List.mem_cons_self ..)
    obtain ⟨l, hl, hq⟩ := ih fun y hy => h y (List.mem_cons_of_mem _ hy)
    refine ⟨t :: l, by simp [hl], fun i x u hx hu => ?_⟩
    cases i with
    | zero => simp only [List.getElem?_cons_zero, Option.some.injEq] at hx hu; subst hx hu; exact ht
    | succ i => rw [List.getElem?_cons_succ] at hx hu; exact hq i x u hx hu
open Go.ChangeShapes Go.WideShapes Go.Deep in
theorem tk_elem {w : World} {t ts ti tt te : TypeId} {f0 f1 f2 f3 f4 f5 : Field} (hs : P.underlying t = some (.struct #[f0, f1, f2, f3, f4, f5])) (hone : oneCellFields P #[f0, f1, f2, f3, f4, f5] = true)
    (ht : f0.type = ts ∧ f1.type = tt ∧ f2.type = tt ∧ f3.type = ti ∧ f4.type = ti ∧ f5.type = ti)
    (hS : P.underlying ts = some .string) (hI : P.underlying ti = some (.int .i64)) (hT : P.underlying tt = some (.slice te)) (hE : P.underlying te = some (.int .i64)) (hc1 : P.cellsOf te = 1)
    (n : Nat) (cs : List Value) (y : DataW H × List MemPlace) (hf : DataW.trod enc P w 0 (fun _ => true) true n t cs = some y) (hl : cs.length = 6) : ∃ z, cs = tkR.enc z ∧ tkR.wf z ∧ ∃ t, TkD (fun _ => True) w z t := by
  match cs, hl with
  | [c0, c1, c2, c3, c4, c5], _ =>
    obtain ⟨xs, m, _, hx, _, hlen, hg⟩ := DataW.trod_struct hs hf
    obtain ⟨o0, k0⟩ := hone_of hone 0 f0 rfl
    obtain ⟨o1, k1⟩ := hone_of hone 1 f1 rfl
    obtain ⟨o2, k2⟩ := hone_of hone 2 f2 rfl
    obtain ⟨o3, k3⟩ := hone_of hone 3 f3 rfl
    obtain ⟨o4, k4⟩ := hone_of hone 4 f4 rfl
    obtain ⟨o5, k5⟩ := hone_of hone 5 f5 rfl
    match xs, hlen with
    | [y0, y1, y2, y3, y4, y5], _ =>
      have e0 : DataW.trod enc P w 0 (fun _ => true) true m f0.type [c0] = some y0 := by simpa [Value.cells, o0, k0] using hg 0 f0 rfl
      have e1 : DataW.trod enc P w 0 (fun _ => true) true m f1.type [c1] = some y1 := by simpa [Value.cells, o1, k1] using hg 1 f1 rfl
      have e2 : DataW.trod enc P w 0 (fun _ => true) true m f2.type [c2] = some y2 := by simpa [Value.cells, o2, k2] using hg 2 f2 rfl
      have e3 : DataW.trod enc P w 0 (fun _ => true) true m f3.type [c3] = some y3 := by simpa [Value.cells, o3, k3] using hg 3 f3 rfl
      have e4 : DataW.trod enc P w 0 (fun _ => true) true m f4.type [c4] = some y4 := by simpa [Value.cells, o4, k4] using hg 4 f4 rfl
      have e5 : DataW.trod enc P w 0 (fun _ => true) true m f5.type [c5] = some y5 := by simpa [Value.cells, o5, k5] using hg 5 f5 rfl
      obtain ⟨t0, t1, t2, t3, t4, t5⟩ := ht
      rw [t0] at e0; rw [t1] at e1; rw [t2] at e2; rw [t3] at e3; rw [t4] at e4; rw [t5] at e5
      obtain ⟨s, q0, _, ws⟩ := DataW.trod_string hS e0
      obtain ⟨lg, hlg⟩ := sl_of hT hE hc1 e1
      obtain ⟨ld, hld⟩ := sl_of hT hE hc1 e2
      obtain ⟨x3, q3, _, w3⟩ := DataW.trod_int hI e3
      obtain ⟨x4, q4, _, w4⟩ := DataW.trod_int hI e4
      obtain ⟨x5, q5, _, w5⟩ := DataW.trod_int hI e5
      simp only [List.cons.injEq, and_true] at q0 q3 q4 q5
      subst q0 q3 q4 q5
      obtain ⟨ga, gc, rfl, g2⟩ := id hlg
      obtain ⟨da, dc, rfl, d2⟩ := id hld
      exact ⟨⟨s, ga, lg.length, gc, da, ld.length, dc, x3, x4, x5⟩, rfl, ⟨ws, w3, w4, w5⟩, ⟨s, lg, ld, x3, x4, x5⟩, ⟨rfl, ⟨hlg, blk_true _⟩, ⟨hld, blk_true _⟩, rfl, rfl, rfl⟩⟩
open Go.ChangeShapes Go.WideShapes Go.Deep in
theorem pg_elem {w : World} {t td tt ti : TypeId} {f0 f1 g0 g1 g2 : Field} (hs : P.underlying t = some (.struct #[f0, f1])) (h0 : f0.type = td ∧ f0.offset = 0 ∧ P.cellsOf td = 3) (h1 : f1.type = tt ∧ f1.offset = 3 ∧ P.cellsOf tt = 1)
    (hd : P.underlying td = some (.struct #[g0, g1, g2])) (hone : oneCellFields P #[g0, g1, g2] = true) (hdt : g0.type = ti ∧ g1.type = ti ∧ g2.type = ti) (hI : P.underlying ti = some (.int .i64))
    (hts : ∀ n v y, DataW.trod enc P w 0 (fun _ => true) true n tt [v] = some y → ∃ l, TksD (fun _ => True) w v l)
    (n : Nat) (cs : List Value) (y : DataW H × List MemPlace) (hf : DataW.trod enc P w 0 (fun _ => true) true n t cs = some y) (hl : cs.length = 4) : ∃ z, cs = pgR.enc z ∧ pgR.wf z ∧ ∃ p, PgD (fun _ => True) w z p := by
  match cs, hl with
  | [c0, c1, c2, c3], _ =>
    obtain ⟨y0, y1, m, hx, _, e0, e1⟩ := trod_struct2 hs hf
    rw [h0.1, h0.2.1, h0.2.2] at e0
    rw [h1.1, h1.2.1, h1.2.2] at e1
    simp only [List.drop_zero, List.take_succ_cons, List.take_zero] at e0
    simp only [List.drop_succ_cons, List.drop_zero, List.take_succ_cons, List.take_zero] at e1
    obtain ⟨l, hl⟩ := hts _ _ _ e1
    obtain ⟨z0, z1, z2, m2, hx2, _, k0, k1, k2⟩ := trod_struct3 hd e0
    obtain ⟨o0, q0⟩ := hone_of hone 0 g0 rfl
    obtain ⟨o1, q1⟩ := hone_of hone 1 g1 rfl
    obtain ⟨o2, q2⟩ := hone_of hone 2 g2 rfl
    rw [o0, q0, hdt.1] at k0
    rw [o1, q1, hdt.2.1] at k1
    rw [o2, q2, hdt.2.2] at k2
    simp only [List.drop_zero, List.drop_succ_cons, List.take_succ_cons, List.take_zero] at k0 k1 k2
    obtain ⟨x0, u0, _, w0⟩ := DataW.trod_int hI k0
    obtain ⟨x1, u1, _, w1⟩ := DataW.trod_int hI k1
    obtain ⟨x2, u2, _, w2⟩ := DataW.trod_int hI k2
    simp only [List.cons.injEq, and_true] at u0 u1 u2
    subst u0 u1 u2
    obtain ⟨ls, hls⟩ := id hl
    obtain ⟨a, c, rfl⟩ := hls.1.form
    exact ⟨⟨x0, x1, x2, a, ls.length, c⟩, rfl, ⟨w0, w1, w2⟩, ⟨x0, x1, x2, l⟩, ⟨rfl, rfl, rfl, hl⟩⟩
end
theorem tk_elemI {H : Type} {enc : TypeId × Value → H} {w : World} (n : Nat) (cs : List Value) (y : DataW H × List MemPlace) (hf : DataW.trod enc Tryz.prog w 0 (fun _ => true) true n 31 cs = some y) (hl : cs.length = 6) : ∃ z, cs = tkR.enc z ∧ tkR.wf z ∧ ∃ t, TkD (fun _ => True) w z t :=
  tk_elem (ts := 9) (ti := 3) (tt := 29) (te := 3) Tryz.underlying31 (by kernel_rfl) ⟨rfl, rfl, rfl, rfl, rfl, rfl⟩ Tryz.underlying9 Tryz.underlying3 Tryz.underlying29 Tryz.underlying3 (by kernel_rfl) n cs y hf hl
theorem tks_elemI {H : Type} {enc : TypeId × Value → H} {w : World} (n : Nat) (v : Value) (y : DataW H × List MemPlace) (hf : DataW.trod enc Tryz.prog w 0 (fun _ => true) true n 24 [v] = some y) : ∃ l, TksD (fun _ => True) w v l := by
  have hC : Tryz.prog.cellsOf tkR.E = tkR.k := by kernel_rfl
  obtain ⟨ls, h1, h2⟩ := slG_of (Q := fun z => ∃ t, TkD (fun _ => True) w z t) tkOk tkOk.und hC (fun n cs y h hl => tk_elemI n cs y h hl) hf
  obtain ⟨l, hl, hq⟩ := list_of_fn ls _ h2
  exact ⟨l, ls, h1, blk_true _, hl, hq⟩
theorem pg_elemI {H : Type} {enc : TypeId × Value → H} {w : World} (n : Nat) (cs : List Value) (y : DataW H × List MemPlace) (hf : DataW.trod enc Tryz.prog w 0 (fun _ => true) true n 26 cs = some y) (hl : cs.length = 4) : ∃ z, cs = pgR.enc z ∧ pgR.wf z ∧ ∃ t, PgD (fun _ => True) w z t :=
  pg_elem (td := 23) (tt := 24) (ti := 3) Tryz.underlying26 ⟨rfl, rfl, by kernel_rfl⟩ ⟨rfl, rfl, by kernel_rfl⟩ Tryz.underlying23 (by kernel_rfl) ⟨rfl, rfl, rfl⟩ Tryz.underlying3 (fun n v y h => tks_elemI n v y h) n cs y hf hl
set_option maxRecDepth 100000 in
/-- A page off an argument. -/
theorem pg_arg {H : Type} {enc : TypeId × Value → H} {w : World} {r : Reach} {b0 : Nat} {v : Value} {d : DataW H} {ps : List MemPlace} (hv : Value.okWide Tryz.prog w r b0 26 v) (h : DataW.Trod enc Tryz.prog w 0 (fun _ => true) true 26 v d ps) : ∃ z p, v = .agg (pgR.enc z).toArray ∧ pgR.wf z ∧ PgD (fun _ => True) w z p := by
  have hC : Tryz.prog.cellsOf 26 = 4 := by kernel_rfl
  obtain ⟨cs, rfl, hsz⟩ := Go.WideShapes.okWide_struct Tryz.underlying26 hv
  obtain ⟨l⟩ := cs
  obtain ⟨fuel, hf⟩ := h
  obtain ⟨z, hz, hw, p, hp⟩ := pg_elemI fuel l _ hf (hsz.trans hC)
  exact ⟨z, p, by rw [hz], hw, hp⟩
end Go.Proofs.YtmmfkleplbofgaaGreatDoor
