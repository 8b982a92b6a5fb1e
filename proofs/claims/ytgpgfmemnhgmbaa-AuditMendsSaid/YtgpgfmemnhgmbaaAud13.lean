/- The law's examples (awake); many. -/
import Derived.Test.YtgpgfmemnhgmbaaProg
import Derived.Test.YtgpgfmemnhgmbaaLay
import Derived.Test.YtgpgfmemnhgmbaaRegion
import Derived.Test.YtgpgfmemnhgmbaaMix
import Derived.WalkKit
import Derived.WalkSpells
import Derived.WalkLawsBesides
import Derived.Lib.Hide
import Derived.BigQuiet
import Derived.Test.YtgpgfmemnhgmbaaPlain
import Derived.Test.YtgpgfmemnhgmbaaAngle
import Derived.Test.YtgpgfmemnhgmbaaAud12
namespace Go.Proofs.Ytgpgfmemnhgmbaa
open Go.RowKit

theorem sl_lit {w : World} {L : List (Obj ⊕ Ext)} {cs : Array Value} (l : List Int) (hc : cs.toList = l.map (Value.int .i64)) (hl : l.length ≤ 1000) (hw : ∀ i, i < l.length → (Lit.int .i64 (nth l i)).wf = true) :
    Sl (lay w (.inl (.cells cs 3 (0, 0)) :: L)) (.slice (some ⟨posn w (shp L), 0, none⟩) l.length l.length) l := by
  rw [← lay_size w L]
  refine Ow.sl (base := (lay w L).heap.size) ⟨?_, hw⟩
  have := World.ownsRow_lit (base := (lay w L).heap.size) (e := 3) (size := 1) (lay w L) cs l.length (Nat.le_refl _) (by unfold maxLen; omega) (by rw [← Array.length_toList, hc]; simp)
  rw [hc] at this
  exact this
theorem wf_all {l : List Int} (h : l.all (fun x => (Lit.int .i64 x).wf) = true) : ∀ i, i < l.length → (Lit.int .i64 (nth l i)).wf = true := fun _ hi => List.all_eq_true.1 h _ (nth_mem hi)
theorem diff_eg {v : Value} {l : List Int} {wr : Bool} {order : Int} {r : List Int} {w : World} (hs : Sl w v l) (h : difE wr l order = 0 ∧ dfL wr l order = r) :
    Calls Try.prog 12 #[v, .int .i64 order, .bool wr] w (RwE w r 0) := by
  have := aud_Diff v l wr order w hs
  rw [h.1, h.2] at this; exact this
theorem sl_EqualT (v1 v2 : Value) (l : List Int) (w : World) (h1 : Sl w v1 l) (h2 : Sl w v2 l) : Calls Try.prog 14 #[v1, v2] w fun e w' => e = .returned (.bool true) ∧ ∃ d, w' = bw w d := by
  have := sl_Equal v1 v2 l l w h1 h2
  rw [decide_eq_true rfl] at this
  exact this
theorem awake_d1 (v : Value) (w : World) (hs : Sl w v [0, 1, 4, 9]) : Calls Try.prog 12 #[v, .int .i64 2, .bool false] w (RwE w [2, 2] 0) := diff_eg (l := [0, 1, 4, 9]) (wr := false) (order := 2) (r := [2, 2]) hs eg_d1
theorem awake_d2 (v : Value) (w : World) (hs : Sl w v [215990, 10, 30]) : Calls Try.prog 12 #[v, .int .i64 1, .bool true] w (RwE w [20, 20] 0) := diff_eg (l := [215990, 10, 30]) (wr := true) (order := 1) (r := [20, 20]) hs eg_d2
theorem awake_l1 (w : World) (L : List (Obj ⊕ Ext)) : Sl (lay w (.inl (.cells #[.int .i64 0, .int .i64 1, .int .i64 4, .int .i64 9] 3 (0, 0)) :: L)) (.slice (some ⟨posn w (shp L), 0, none⟩) 4 4) [0, 1, 4, 9] := sl_lit [0, 1, 4, 9] rfl (by decide) (wf_all (by decide))
theorem awake_l2 (w : World) (L : List (Obj ⊕ Ext)) : Sl (lay w (.inl (.cells #[.int .i64 10, .int .i64 20, .int .i64 30, .int .i64 45, .int .i64 50, .int .i64 60] 3 (0, 0)) :: L)) (.slice (some ⟨posn w (shp L), 0, none⟩) 6 6) [10, 20, 30, 45, 50, 60] := sl_lit [10, 20, 30, 45, 50, 60] rfl (by decide) (wf_all (by decide))
theorem awake_l3 (w : World) (L : List (Obj ⊕ Ext)) : Sl (lay w (.inl (.cells #[.int .i64 215990, .int .i64 10, .int .i64 30] 3 (0, 0)) :: L)) (.slice (some ⟨posn w (shp L), 0, none⟩) 3 3) [215990, 10, 30] := sl_lit [215990, 10, 30] rfl (by decide) (wf_all (by decide))
theorem awake_l4 (w : World) (L : List (Obj ⊕ Ext)) : Sl (lay w (.inl (.cells #[.int .i64 2, .int .i64 2] 3 (0, 0)) :: L)) (.slice (some ⟨posn w (shp L), 0, none⟩) 2 2) [2, 2] := sl_lit [2, 2] rfl (by decide) (wf_all (by decide))
theorem awake_l5 (w : World) (L : List (Obj ⊕ Ext)) : Sl (lay w (.inl (.cells #[.int .i64 39, .int .i64 40, .int .i64 41] 3 (0, 0)) :: L)) (.slice (some ⟨posn w (shp L), 0, none⟩) 3 3) [39, 40, 41] := sl_lit [39, 40, 41] rfl (by decide) (wf_all (by decide))
theorem awake_l6 (w : World) (L : List (Obj ⊕ Ext)) : Sl (lay w (.inl (.cells #[.int .i64 20, .int .i64 20] 3 (0, 0)) :: L)) (.slice (some ⟨posn w (shp L), 0, none⟩) 2 2) [20, 20] := sl_lit [20, 20] rfl (by decide) (wf_all (by decide))
theorem awake_p (v : Value) (w : World) (hs : Sl w v [10, 20, 30, 45, 50, 60]) : Calls Try.prog 16 #[v, .int .i64 0, .bool false] w fun e w' => e = .returned (.tuple #[.bool false, .int .i64 2, .int .i64 0]) ∧ ∃ d, w' = bw w d := by
  have := aud_Possible v [10, 20, 30, 45, 50, 60] false 0 w hs
  rw [eg_p.1, eg_p.2.1, eg_p.2.2] at this
  exact this
theorem awake_r (v : Value) (w : World) (hs : Sl w v [10, 20, 30, 45, 50, 60]) : Calls Try.prog 18 #[v, .int .i64 0, .int .i64 3, .bool false] w (RwE w [39, 40, 41] 0) := by
  have := aud_Repair v [10, 20, 30, 45, 50, 60] false 0 3 w hs
  rw [eg_r.1, eg_r.2] at this
  exact this
set_option maxHeartbeats 1000000 in
set_option maxRecDepth 100000 in
theorem law15_awake (w : World) :
    Calls Try.prog 10 #[] w fun e w' => e = .returned (.bool true) ∧ ∃ d, w' = bw w d := by
  refine lay_start ?_
  go_enter Try.func10, Try.ntmps10
  go_wp2_with fail
  refine (awake_d1 _ _ (awake_l1 w [])).mono ?_
  rintro e w' ⟨v1, d1, rfl, rfl, h1⟩
  rw [lay_bw] at h1 ⊢
  have H1 := Lib.hid h1
  clear h1
  go_wp2_with fail
  refine (awake_p _ _ (awake_l2 w [.inr d1, .inl (.cells #[.int .i64 0, .int .i64 1, .int .i64 4, .int .i64 9] 3 (0, 0))])).mono ?_
  rintro e w' ⟨rfl, d2, rfl⟩
  rw [lay_bw]
  go_wp2_with fail
  refine (awake_r _ _ (sl_on (A := [.inr d2]) (awake_l2 w [.inr d1, .inl (.cells #[.int .i64 0, .int .i64 1, .int .i64 4, .int .i64 9] 3 (0, 0))]))).mono ?_
  rintro e w' ⟨v3, d3, rfl, rfl, h3⟩
  rw [lay_bw] at h3 ⊢
  have H3 := Lib.hid h3
  clear h3
  go_wp2_with fail
  refine (awake_d2 _ _ (awake_l3 w [.inr d3, .inr d2, .inl (.cells #[.int .i64 10, .int .i64 20, .int .i64 30, .int .i64 45, .int .i64 50, .int .i64 60] 3 (0, 0)), .inr d1, .inl (.cells #[.int .i64 0, .int .i64 1, .int .i64 4, .int .i64 9] 3 (0, 0))])).mono ?_
  rintro e w' ⟨v4, d4, rfl, rfl, h4⟩
  rw [lay_bw] at h4 ⊢
  have H4 := Lib.hid h4
  clear h4
  go_wp2_with fail
  refine (sl_EqualT _ _ [2, 2] _ (sl_on (A := [_, _, _, _, _, _]) H1.out.sl) (awake_l4 w [.inr d4, .inl (.cells #[.int .i64 215990, .int .i64 10, .int .i64 30] 3 (0, 0)), .inr d3, .inr d2, .inl (.cells #[.int .i64 10, .int .i64 20, .int .i64 30, .int .i64 45, .int .i64 50, .int .i64 60] 3 (0, 0)), .inr d1, .inl (.cells #[.int .i64 0, .int .i64 1, .int .i64 4, .int .i64 9] 3 (0, 0))])).mono ?_
  rintro e w' ⟨rfl, d5, rfl⟩
  rw [lay_bw]
  go_wp2_with fail
  refine (sl_EqualT _ _ [39, 40, 41] _ (sl_on (A := [_, _, _, _, _]) H3.out.sl) (awake_l5 w [.inr d5, .inl (.cells #[.int .i64 2, .int .i64 2] 3 (0, 0)), .inr d4, .inl (.cells #[.int .i64 215990, .int .i64 10, .int .i64 30] 3 (0, 0)), .inr d3, .inr d2, .inl (.cells #[.int .i64 10, .int .i64 20, .int .i64 30, .int .i64 45, .int .i64 50, .int .i64 60] 3 (0, 0)), .inr d1, .inl (.cells #[.int .i64 0, .int .i64 1, .int .i64 4, .int .i64 9] 3 (0, 0))])).mono ?_
  rintro e w' ⟨rfl, d6, rfl⟩
  rw [lay_bw]
  go_wp2_with fail
  refine (sl_EqualT _ _ [20, 20] _ (sl_on (A := [_, _, _, _, _]) H4.out.sl) (awake_l6 w [.inr d6, .inl (.cells #[.int .i64 39, .int .i64 40, .int .i64 41] 3 (0, 0)), .inr d5, .inl (.cells #[.int .i64 2, .int .i64 2] 3 (0, 0)), .inr d4, .inl (.cells #[.int .i64 215990, .int .i64 10, .int .i64 30] 3 (0, 0)), .inr d3, .inr d2, .inl (.cells #[.int .i64 10, .int .i64 20, .int .i64 30, .int .i64 45, .int .i64 50, .int .i64 60] 3 (0, 0)), .inr d1, .inl (.cells #[.int .i64 0, .int .i64 1, .int .i64 4, .int .i64 9] 3 (0, 0))])).mono ?_
  rintro e w' ⟨rfl, d7, rfl⟩
  rw [lay_bw]
  go_wp2
  go_ret
  exact ⟨rfl, lay_ex _ _⟩
def manyB (n : Nat) : Bool := decide (60 < n) && decide (n ≤ 1000) || decide (1100 < n)
theorem law15_many (v : Value) (l : List Int) (w : World) (hs : Sl w v l) :
    Calls Try.prog 11 #[v] w fun e w' => e = .returned (.bool (manyB l.length)) ∧ w' = w := by
  obtain ⟨a, cap, rfl, -⟩ := hs
  generalize l.length = m
  have hE : manyB m = (decide ((60 : Int) < (m : Int)) && decide ((m : Int) ≤ 1000) || decide ((1100 : Int) < (m : Int))) := by
    unfold manyB; rw [Bool.eq_iff_iff]; simp; omega
  rw [hE]
  clear hE
  cases h1 : decide ((60 : Int) < (m : Int))
  · rw [Bool.false_and, Bool.false_or]
    go_enter Try.func11, Try.ntmps11
    go_wp2
    go_ret
    exact ⟨rfl, rfl⟩
  · rw [Bool.true_and]
    cases h2 : decide ((m : Int) ≤ 1000)
    · rw [Bool.false_or]
      go_enter Try.func11, Try.ntmps11
      go_wp2
      go_ret
      exact ⟨rfl, rfl⟩
    · rw [Bool.true_or]
      go_enter Try.func11, Try.ntmps11
      go_wp2
      go_ret
      exact ⟨rfl, rfl⟩
end Go.Proofs.Ytgpgfmemnhgmbaa
