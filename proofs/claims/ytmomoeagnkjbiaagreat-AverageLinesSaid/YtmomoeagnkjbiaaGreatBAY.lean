/- Contracts and plain laws, several texts in one: Awk2; SlL -/
import Derived.Test.YtmomoeagnkjbiaaGreatProg
import Derived.WalkKit
import Derived.WalkSpells
import Derived.WalkLawsBesides
import Derived.Lib.Hide
import Derived.BigQuiet
import Derived.Test.YtmomoeagnkjbiaaGreatBAA
import Derived.Test.YtmomoeagnkjbiaaGreatBAB
import Derived.Test.YtmomoeagnkjbiaaGreatBAX
/- almucantarlaw23.awake. -/
namespace Go.Proofs.YtmomoeagnkjbiaaGreat
open Go.RowKit

theorem sl_lit23 {w : World} {L : List (Obj ⊕ Ext)} {cs : Array Value} (l : List Int) (hc : cs.toList = l.map (Value.int .i64)) (hl : l.length ≤ 1000) (hw : ∀ i, i < l.length → (Lit.int .i64 (nth l i)).wf = true) :
    Sl (lay w (.inl (.cells cs 3 (0, 0)) :: L)) (.slice (some ⟨posn w (shp L), 0, none⟩) l.length l.length) l := by
  rw [← lay_size w L]
  refine Ow.sl (base := (lay w L).heap.size) ⟨?_, hw⟩
  have := World.ownsRow_lit (base := (lay w L).heap.size) (e := 3) (size := 1) (lay w L) cs l.length (Nat.le_refl _) (by unfold maxLen; omega) (by rw [← Array.length_toList, hc]; simp)
  rw [hc] at this
  exact this
theorem wf_all23 {l : List Int} (h : l.all (fun x => (Lit.int .i64 x).wf) = true) : ∀ i, i < l.length → (Lit.int .i64 (nth l i)).wf = true := fun _ hi => by rw [nth_lt hi]; exact List.all_eq_true.1 h _ (List.getElem_mem hi)
theorem sl_EqT (v1 v2 : Value) (l : List Int) (w : World) (h1 : Sl w v1 l) (h2 : Sl w v2 l) : Calls Tryz.prog 21 #[v1, v2] w fun e w' => e = .returned (.bool true) ∧ ∃ d, w' = bw w d := by
  have := sl_Equal v1 v2 l l w h1 h2
  rw [decide_eq_true rfl] at this
  exact this
theorem aw_l1 (w : World) (L : List (Obj ⊕ Ext)) : Sl (lay w (.inl (.cells #[.int .i64 0, .int .i64 10000, .int .i64 20000] 3 (0, 0)) :: L)) (.slice (some ⟨posn w (shp L), 0, none⟩) 3 3) [0, 10000, 20000] := sl_lit23 [0, 10000, 20000] rfl (by decide) (wf_all23 (by decide))
theorem aw_l2 (w : World) (L : List (Obj ⊕ Ext)) : Sl (lay w (.inl (.cells #[.int .i64 1000, .int .i64 1500, .int .i64 2000] 3 (0, 0)) :: L)) (.slice (some ⟨posn w (shp L), 0, none⟩) 3 3) [1000, 1500, 2000] := sl_lit23 [1000, 1500, 2000] rfl (by decide) (wf_all23 (by decide))
theorem aw_l3 (w : World) (L : List (Obj ⊕ Ext)) : Sl (lay w (.inl (.cells #[.int .i64 10, .int .i64 12, .int .i64 11, .int .i64 500, .int .i64 9] 3 (0, 0)) :: L)) (.slice (some ⟨posn w (shp L), 0, none⟩) 5 5) [10, 12, 11, 500, 9] := sl_lit23 [10, 12, 11, 500, 9] rfl (by decide) (wf_all23 (by decide))
theorem aw_l4 (w : World) (L : List (Obj ⊕ Ext)) : Sl (lay w (.inl (.cells #[.int .i64 3] 3 (0, 0)) :: L)) (.slice (some ⟨posn w (shp L), 0, none⟩) 1 1) [3] := sl_lit23 [3] rfl (by decide) (wf_all23 (by decide))
theorem aw_line (v1 v2 : Value) (w : World) (h1 : Sl w v1 [0, 10000, 20000]) (h2 : Sl w v2 [1000, 1500, 2000]) :
    Calls Tryz.prog 17 #[v1, v2] w fun e w' => e = .returned (.tuple #[(.agg #[.int .i64 (50), .int .i64 (1)]), .int .i64 1000, .int .i64 0]) ∧ ∃ d, w' = bw w d := by
  have := av_Line v1 v2 _ _ w h1 h2
  rw [ln_eg.1, ln_eg.2.1, ln_eg.2.2.1, ln_eg.2.2.2] at this
  exact this
theorem aw_rej (v : Value) (w : World) (h : Sl w v [10, 12, 11, 500, 9]) : Calls Tryz.prog 26 #[v, .int .i64 3] w (RwE w [3] 0) := by
  have := av_Reject v _ 3 w h
  rw [rej_eg.1, rej_eg.2] at this
  exact this
set_option maxHeartbeats 2000000 in
set_option maxRecDepth 100000 in
theorem law23_awake (w : World) :
    Calls Tryz.prog 7 #[] w fun e w' => e = .returned (.bool true) ∧ ∃ d, w' = bw w d := by
  refine lay_start ?_
  go_enter Tryz.func7, Tryz.ntmps7
  go_wp2_with fail
  refine (aw_line _ _ _ (sl_on (A := [_]) (aw_l1 w [])) (aw_l2 w [.inl (.cells #[.int .i64 0, .int .i64 10000, .int .i64 20000] 3 (0, 0))])).mono ?_
  rintro e w' ⟨rfl, d1, rfl⟩
  rw [lay_bw]
  go_wp2_with fail
  refine (aw_rej _ _ (aw_l3 w [.inl (.cells #[.int .i64 50, .int .i64 1] 26 (0, 0)), .inr d1, .inl (.cells #[.int .i64 1000, .int .i64 1500, .int .i64 2000] 3 (0, 0)), .inl (.cells #[.int .i64 0, .int .i64 10000, .int .i64 20000] 3 (0, 0))])).mono ?_
  rintro e w' ⟨v1, d2, rfl, rfl, h1⟩
  rw [lay_bw] at h1 ⊢
  have H1 := Lib.hid h1
  clear h1
  go_wp2_with (go_at_call 8; refine (av_Slope1 _).mono ?_; rintro e w' ⟨rfl, d3, rfl⟩)
  refine region_mixW [0, 0, 0, 0, 0, 0, 0, 0, 0, 0, 0, 0, 0, 0, 0, 0, 0, 1, 1, 0, 0, 0, 0, 0, 0, 0, 0, 0, 0, 0, 0, 0, 0, 0, 0] (by kernel_rfl) (by kernel_rfl) (by kernel_rfl) ?_
  repeat (refine wpM_quiet (fun K hK => ?_); go_simp; first | (refine hK _ ?_; clear hK K) | (apply Exists.intro; refine ⟨fun _ => ?_, hK _ ?_⟩; (first | (go_at_call 15; exact bq (law23_whole _ _) (fun d => ⟨d, rfl⟩))); clear hK K))
  refine wpM_special (fun K hK d4 => ?_)
  go_simp
  refine hK _ _ (lay_in w [_, _] _) ?_
  clear hK K
  refine wpM_special (fun K hK d5 => ?_)
  rw [lay_bw]
  go_simp
  have HE1 := Lib.hid (sl_on (A := [.inr d5, .inl (.cells #[.int .i64 3] 3 (0, 0)), .inr d4, .inl (.cells #[.int .i64 250, .int .i64 1] 26 (0, 0)), .inl (.cells #[.int .i64 250, .int .i64 1] 26 (0, 0)), .inr d3]) H1.out.sl)
  have HE2 := Lib.hid (sl_on (A := [.inr d5]) (aw_l4 w [.inr d4, .inl (.cells #[.int .i64 250, .int .i64 1] 26 (0, 0)), .inl (.cells #[.int .i64 250, .int .i64 1] 26 (0, 0)), .inr d3, .inr d2, .inl (.cells #[.int .i64 10, .int .i64 12, .int .i64 11, .int .i64 500, .int .i64 9] 3 (0, 0)), .inl (.cells #[.int .i64 50, .int .i64 1] 26 (0, 0)), .inr d1, .inl (.cells #[.int .i64 1000, .int .i64 1500, .int .i64 2000] 3 (0, 0)), .inl (.cells #[.int .i64 0, .int .i64 10000, .int .i64 20000] 3 (0, 0))]))
  refine (sl_EqT _ _ [3] _ HE1.out HE2.out).mono ?_
  rintro e w' ⟨rfl, d6, rfl⟩
  refine ⟨_, rfl, ?_⟩
  rw [lay_bw]
  refine hK _ _ (lay_in w [_, _, _, _] _) ?_
  clear hK K HE1 HE2
  repeat (refine wpM_quiet (fun K hK => ?_); go_simp; first | (refine hK _ ?_; clear hK K) | (apply Exists.intro; refine ⟨fun _ => ?_, hK _ ?_⟩; (first | (go_at_call 15; exact bq (law23_whole _ _) (fun d => ⟨d, rfl⟩))); clear hK K))
  refine wpM_nil ?_
  intro d7
  rw [lay_bw]
  go_wp2_with fail
  go_ret
  exact ⟨rfl, lay_ex _ _⟩
end Go.Proofs.YtmomoeagnkjbiaaGreat
/- The law AverageSlopes. -/
namespace Go.Proofs.YtmomoeagnkjbiaaGreat
open Go.RowKit

set_option maxHeartbeats 2000000 in
set_option maxRecDepth 100000 in
theorem law23_Slopes {w : World} (l0 l1 : Int) (_h0 : (Lit.int .i64 l0).wf = true) (_h1 : (Lit.int .i64 l1).wf = true) (z0 z1 : Int) (_g0 : (Lit.int .i64 z0).wf = true) (_g1 : (Lit.int .i64 z1).wf = true) :
    Calls Tryz.prog 3 #[(.agg #[.int .i64 (l0), .int .i64 (l1)]), (.agg #[.int .i64 (z0), .int .i64 (z1)])] w fun e w' => e = .returned (.bool true) ∧ ∃ d, w' = bw w d := by
  have key : ∃ n1 d1 n2 d2 x : Int, Hid (∀ W, Calls Tryz.prog 8 #[(.agg #[.int .i64 (l0), .int .i64 (l1)]), (.agg #[.int .i64 (z0), .int .i64 (z1)])] W fun e w' => e = .returned (.tuple #[(.agg #[.int .i64 (n1), .int .i64 (d1)]), (.agg #[.int .i64 (n2), .int .i64 (d2)]), .int .i64 x]) ∧ ∃ d, w' = bw W d) ∧ Hid (∀ W, Calls Tryz.prog 9 #[(.agg #[.int .i64 (l0), .int .i64 (l1)]), (.agg #[.int .i64 (z0), .int .i64 (z1)])] W fun e w' => e = .returned (.tuple #[(.agg #[.int .i64 (n1), .int .i64 (d1)]), (.agg #[.int .i64 (n2), .int .i64 (d2)]), .int .i64 x]) ∧ ∃ d, w' = bw W d) := by
    cases h : (latB l0 l1 && validB z0 z1)
    · exact ⟨0, 0, 0, 0, 1, Lib.hid fun W => av_SlopeBad l0 l1 z0 z1 W h, Lib.hid fun W => r23_SlopeBad l0 l1 z0 z1 W h⟩
    · rw [Bool.and_eq_true] at h
      exact ⟨_, _, _, _, 0, Lib.hid fun W => av_SlopeG l0 l1 z0 z1 W h.1 h.2, Lib.hid fun W => r23_SlopeG l0 l1 z0 z1 W h.1 h.2⟩
  obtain ⟨n1, d1, n2, d2, x, HA, HR⟩ := key
  have t1 : (n1 == n1) = true := beq_iff_eq.2 rfl
  have t2 : (d1 == d1) = true := beq_iff_eq.2 rfl
  have t3 : (n2 == n2) = true := beq_iff_eq.2 rfl
  have t4 : (d2 == d2) = true := beq_iff_eq.2 rfl
  have t5 : (x == x) = true := beq_iff_eq.2 rfl
  refine lay_start ?_
  go_enter Tryz.func3, Tryz.ntmps3
  go_wp2_with (first | (go_at_call 7; refine (law23_awake _).mono ?_; rintro e w' ⟨rfl, dA, rfl⟩) | (go_at_call 8; refine (HA.out _).mono ?_; rintro e w' ⟨rfl, dB, rfl⟩) | (go_at_call 9; refine (HR.out _).mono ?_; rintro e w' ⟨rfl, dC, rfl⟩))
  go_ret
  exact ⟨rfl, lay_ex _ _⟩
end Go.Proofs.YtmomoeagnkjbiaaGreat
