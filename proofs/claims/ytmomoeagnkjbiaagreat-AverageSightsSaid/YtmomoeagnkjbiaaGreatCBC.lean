/- Contracts and plain laws, several texts in one: Awk2; LaI -/
import Derived.Test.YtmomoeagnkjbiaaGreatProg
import Derived.WalkKit
import Derived.WalkSpells
import Derived.WalkLawsBesides
import Derived.Lib.Hide
import Derived.BigQuiet
import Derived.Test.YtmomoeagnkjbiaaGreatCAA
import Derived.Test.YtmomoeagnkjbiaaGreatCAB
import Derived.Test.YtmomoeagnkjbiaaGreatCAZ
import Derived.Test.YtmomoeagnkjbiaaGreatCBB
/- almucantarlaw23.awake. -/
namespace Go.Proofs.YtmomoeagnkjbiaaGreat
open Go.RowKit

theorem sl_lit23 {w : World} {L : List (Obj ⊕ Ext)} {cs : Array Value} (l : List Int) (hc : cs.toList = l.map (Value.int .i64)) (hl : l.length ≤ 1000) (hw : ∀ i, i < l.length → (Lit.int .i64 (nth l i)).wf = true) :
    Sl (lay w (.inl (.cells cs 3 (0, 0)) :: L)) (.slice (some ⟨posn w (shp L), 0, none⟩) l.length l.length) l := by
  rw [← lay_size w L]
  refine Ow.sl (base := (lay w L).heap.size) ⟨?_, hw⟩
  have := World.ownsRow_lit (base := (lay w L).heap.size) (e := 3) (size := 1) (lay w L) cs l.length (Nat.le_refl _) (by unfold maxLen; omega) (by rw [← Array.length_toList, hc]; simp)
  rw [hc] at this
  exact this
theorem wf_all23 {l : List Int} (h : l.all (fun x => (Lit.int .i64 x).wf) = true) : ∀ i, i < l.length → (Lit.int .i64 (nth l i)).wf = true := fun _ hi => by rw [nth_lt hi]; exact List.all_eq_true.1 h _ (List.getElem_mem hi)
theorem sl_EqT (v1 v2 : Value) (l : List Int) (w : World) (h1 : Sl w v1 l) (h2 : Sl w v2 l) : Calls Tryz.prog 21 #[v1, v2] w fun e w' => e = .returned (.bool true) ∧ ∃ d, w' = bw w d := by
  have := sl_Equal v1 v2 l l w h1 h2
  rw [decide_eq_true rfl] at this
  exact this
theorem aw_l1 (w : World) (L : List (Obj ⊕ Ext)) : Sl (lay w (.inl (.cells #[.int .i64 0, .int .i64 10000, .int .i64 20000] 3 (0, 0)) :: L)) (.slice (some ⟨posn w (shp L), 0, none⟩) 3 3) [0, 10000, 20000] := sl_lit23 [0, 10000, 20000] rfl (by decide) (wf_all23 (by decide))
theorem aw_l2 (w : World) (L : List (Obj ⊕ Ext)) : Sl (lay w (.inl (.cells #[.int .i64 1000, .int .i64 1500, .int .i64 2000] 3 (0, 0)) :: L)) (.slice (some ⟨posn w (shp L), 0, none⟩) 3 3) [1000, 1500, 2000] := sl_lit23 [1000, 1500, 2000] rfl (by decide) (wf_all23 (by decide))
theorem aw_l3 (w : World) (L : List (Obj ⊕ Ext)) : Sl (lay w (.inl (.cells #[.int .i64 10, .int .i64 12, .int .i64 11, .int .i64 500, .int .i64 9] 3 (0, 0)) :: L)) (.slice (some ⟨posn w (shp L), 0, none⟩) 5 5) [10, 12, 11, 500, 9] := sl_lit23 [10, 12, 11, 500, 9] rfl (by decide) (wf_all23 (by decide))
theorem aw_l4 (w : World) (L : List (Obj ⊕ Ext)) : Sl (lay w (.inl (.cells #[.int .i64 3] 3 (0, 0)) :: L)) (.slice (some ⟨posn w (shp L), 0, none⟩) 1 1) [3] := sl_lit23 [3] rfl (by decide) (wf_all23 (by decide))
theorem aw_line (v1 v2 : Value) (w : World) (h1 : Sl w v1 [0, 10000, 20000]) (h2 : Sl w v2 [1000, 1500, 2000]) :
    Calls Tryz.prog 17 #[v1, v2] w fun e w' => e = .returned (.tuple #[(.agg #[.int .i64 (50), .int .i64 (1)]), .int .i64 1000, .int .i64 0]) ∧ ∃ d, w' = bw w d := by
  have := av_Line v1 v2 _ _ w h1 h2
  rw [ln_eg.1, ln_eg.2.1, ln_eg.2.2.1, ln_eg.2.2.2] at this
  exact this
theorem aw_rej (v : Value) (w : World) (h : Sl w v [10, 12, 11, 500, 9]) : Calls Tryz.prog 26 #[v, .int .i64 3] w (RwE w [3] 0) := by
  have := av_Reject v _ 3 w h
  rw [rej_eg.1, rej_eg.2] at this
  exact this
set_option maxHeartbeats 2000000 in
set_option maxRecDepth 100000 in
theorem law23_awake (w : World) :
    Calls Tryz.prog 7 #[] w fun e w' => e = .returned (.bool true) ∧ ∃ d, w' = bw w d := by
  refine lay_start ?_
  go_enter Tryz.func7, Tryz.ntmps7
  go_wp2_with fail
  refine (aw_line _ _ _ (sl_on (A := [_]) (aw_l1 w [])) (aw_l2 w [.inl (.cells #[.int .i64 0, .int .i64 10000, .int .i64 20000] 3 (0, 0))])).mono ?_
  rintro e w' ⟨rfl, d1, rfl⟩
  rw [lay_bw]
  go_wp2_with fail
  refine (aw_rej _ _ (aw_l3 w [.inl (.cells #[.int .i64 50, .int .i64 1] 26 (0, 0)), .inr d1, .inl (.cells #[.int .i64 1000, .int .i64 1500, .int .i64 2000] 3 (0, 0)), .inl (.cells #[.int .i64 0, .int .i64 10000, .int .i64 20000] 3 (0, 0))])).mono ?_
  rintro e w' ⟨v1, d2, rfl, rfl, h1⟩
  rw [lay_bw] at h1 ⊢
  have H1 := Lib.hid h1
  clear h1
  go_wp2_with (go_at_call 8; refine (av_Slope1 _).mono ?_; rintro e w' ⟨rfl, d3, rfl⟩)
  refine region_mixW [0, 0, 0, 0, 0, 0, 0, 0, 0, 0, 0, 0, 0, 0, 0, 0, 0, 1, 1, 0, 0, 0, 0, 0, 0, 0, 0, 0, 0, 0, 0, 0, 0, 0, 0] (by kernel_rfl) (by kernel_rfl) (by kernel_rfl) ?_
  repeat (refine wpM_quiet (fun K hK => ?_); go_simp; first | (refine hK _ ?_; clear hK K) | (apply Exists.intro; refine ⟨fun _ => ?_, hK _ ?_⟩; (first | (go_at_call 15; exact bq (law23_whole _ _) (fun d => ⟨d, rfl⟩))); clear hK K))
  refine wpM_special (fun K hK d4 => ?_)
  go_simp
  refine hK _ _ (lay_in w [_, _] _) ?_
  clear hK K
  refine wpM_special (fun K hK d5 => ?_)
  rw [lay_bw]
  go_simp
  have HE1 := Lib.hid (sl_on (A := [.inr d5, .inl (.cells #[.int .i64 3] 3 (0, 0)), .inr d4, .inl (.cells #[.int .i64 250, .int .i64 1] 26 (0, 0)), .inl (.cells #[.int .i64 250, .int .i64 1] 26 (0, 0)), .inr d3]) H1.out.sl)
  have HE2 := Lib.hid (sl_on (A := [.inr d5]) (aw_l4 w [.inr d4, .inl (.cells #[.int .i64 250, .int .i64 1] 26 (0, 0)), .inl (.cells #[.int .i64 250, .int .i64 1] 26 (0, 0)), .inr d3, .inr d2, .inl (.cells #[.int .i64 10, .int .i64 12, .int .i64 11, .int .i64 500, .int .i64 9] 3 (0, 0)), .inl (.cells #[.int .i64 50, .int .i64 1] 26 (0, 0)), .inr d1, .inl (.cells #[.int .i64 1000, .int .i64 1500, .int .i64 2000] 3 (0, 0)), .inl (.cells #[.int .i64 0, .int .i64 10000, .int .i64 20000] 3 (0, 0))]))
  refine (sl_EqT _ _ [3] _ HE1.out HE2.out).mono ?_
  rintro e w' ⟨rfl, d6, rfl⟩
  refine ⟨_, rfl, ?_⟩
  rw [lay_bw]
  refine hK _ _ (lay_in w [_, _, _, _] _) ?_
  clear hK K HE1 HE2
  repeat (refine wpM_quiet (fun K hK => ?_); go_simp; first | (refine hK _ ?_; clear hK K) | (apply Exists.intro; refine ⟨fun _ => ?_, hK _ ?_⟩; (first | (go_at_call 15; exact bq (law23_whole _ _) (fun d => ⟨d, rfl⟩))); clear hK K))
  refine wpM_nil ?_
  intro d7
  rw [lay_bw]
  go_wp2_with fail
  go_ret
  exact ⟨rfl, lay_ex _ _⟩
end Go.Proofs.YtmomoeagnkjbiaaGreat
/- The law AverageSights. -/
namespace Go.Proofs.YtmomoeagnkjbiaaGreat
open Go.RowKit

theorem sgt_ok {w : World} {v : Value} {l : List SgV} {n d f : Int} (hl : SlG sgR w v l) (c0 : gvnE l n d f = 0) : SgOk (menS l n d (accS l (outS l n d f) l.length)) := by
  have o := gvn_ok c0
  have o1 := o.l1
  have o2 := o.l2
  have HW0 : SgOk (fstS l) := hl.wf _ (List.mem_of_getElem? (getS_some (by omega) : l[0]? = some (fstS l)))
  have hv0 := o.get (i := 0) (by omega)
  rw [← fstS_get] at hv0
  have hAB := acc_bd o (outS l n d f) l.length (Nat.le_refl _)
  have hMB := men_bd hAB o2 (acc_one o) o.fr
  have hm2 := hv0.t.mid
  have h1 := hMB.wh0; have h2 := hMB.fq; have h3 := hMB.wi; have h4 := hMB.at0
  have h5 := hAB.b0; have h6 := hAB.b1; have h7 := hAB.a0; have h8 := hAB.a1
  refine ⟨HW0.body, ?_, ?_, ?_, ?_⟩ <;> (unfold i64B menS; dsimp only; omega)
theorem sgt_valid {w : World} {v : Value} {l : List SgV} {n d f : Int} (hl : SlG sgR w v l) (h : sgtE l n d f = 0) : sgB (sgtS l n d f) = true ∧ SgOk (sgtS l n d f) := by
  have hS : sgtS l n d f = menS l n d (accS l (outS l n d f) l.length) := if_pos h
  unfold sgtE at h
  by_cases c : gvnE l n d f ≠ 0
  · rw [if_pos c] at h; exact absurd h c
  · rw [if_neg c] at h
    have c0 : gvnE l n d f = 0 := Decidable.byContradiction c
    rw [hS]
    by_cases c2 : sgB (menS l n d (accS l (outS l n d f) l.length)) = true
    · exact ⟨c2, sgt_ok hl c0⟩
    · rw [if_neg c2] at h; cases h
set_option maxRecDepth 100000 in
theorem long1 (s : SgV) (w : World) :
    Calls Tryz.prog 52 #[s.val] w fun e w' => e = .returned (.bool (decide (100 < (s.body.size : Int)))) ∧ ∃ d, w' = bw w d := by
  rw [sg_val]
  obtain ⟨body, limb, lo, hi, hs, wi, hz, ey, sh, te, pr⟩ := s
  dsimp only
  by_cases h : 100 < (body.size : Int)
  · rw [decide_eq_true h]
    refine lay_start ?_
    go_enter Tryz.func52, Tryz.ntmps52
    go_wp2_with fail
    go_ret
    exact ⟨rfl, lay_ex _ _⟩
  · rw [decide_eq_false h]
    refine lay_start ?_
    go_enter Tryz.func52, Tryz.ntmps52
    go_wp2_with fail
    go_ret
    exact ⟨rfl, lay_ex _ _⟩
def longB (l : List SgV) : Bool := decide (50 < (l.length : Int)) || l.any fun s => decide (100 < (s.body.size : Int))
set_option maxRecDepth 100000 in
theorem law23_long (v : Value) (l : List SgV) (w : World) (hl : SlG sgR w v l) :
    Calls Tryz.prog 22 #[v] w fun e w' => e = .returned (.bool (longB l)) ∧ ∃ d, w' = bw w d := by
  have e1 : ∀ args w, (callFunc 52 args).run Tryz.prog w = .ok (.enter 52 args) w := enters_of Tryz.func52 (by kernel_rfl) rfl
  have HC1 : Hid (∀ W (_ : SlG sgR W v l), Calls Tryz.prog 51 #[v, .func (.func 52) #[] #[]] W fun e w' => e = .returned (.bool (l.any fun s => decide (100 < (s.body.size : Int)))) ∧ ∃ d, w' = bw W d) := Lib.hid (fun W (q : SlG sgR W v l) => sg_ContainsFunc 52 [] (fun s => decide (100 < (s.body.size : Int))) v l W q e1 (fun x hx d => (long1 x (bw W d)).mono fun e w' ⟨k1, y, k2⟩ => ⟨k1, _, k2.trans (bw_bw _ _ _)⟩))
  have HL := Lib.hid hl
  obtain ⟨a, cap, rfl⟩ := hl.form
  unfold longB
  generalize (l.any fun s => decide (100 < (s.body.size : Int))) = B at *
  by_cases h : 50 < (l.length : Int)
  · have h' := decide_eq_true h
    rw [h', Bool.true_or]
    generalize l.length = m at *
    clear hl
    refine lay_start ?_
    go_enter Tryz.func22, Tryz.ntmps22
    go_wp2_with fail
    go_ret
    exact ⟨rfl, lay_ex _ _⟩
  · have h' := decide_eq_false h
    rw [h', Bool.false_or]
    generalize l.length = m at *
    clear hl
    refine lay_start ?_
    go_enter Tryz.func22, Tryz.ntmps22
    go_wp2_with (go_at_call 51; refine (HC1.out _ (HL.out.lay _)).mono ?_; rintro e w' ⟨rfl, dC, rfl⟩; rw [lay_bw])
    go_ret
    exact ⟨rfl, lay_ex _ _⟩
set_option maxHeartbeats 4000000 in
set_option maxRecDepth 100000 in
theorem law23_Sights {w : World} (v : Value) (l : List SgV) (hl : SlG sgR w v l) (n d : Int) (_g0 : (Lit.int .i64 n).wf = true) (_g1 : (Lit.int .i64 d).wf = true) (f : Int) (_g2 : (Lit.int .i64 f).wf = true) :
    Calls Tryz.prog 6 #[v, (.agg #[.int .i64 (n), .int .i64 (d)]), .int .i64 f] w fun e w' => e = .returned (.bool true) ∧ ∃ d, w' = bw w d := by
  have HL := Lib.hid hl
  have HLo := Lib.hid (fun W (q : SlG sgR W v l) => law23_long v l W q)
  have HA := Lib.hid (fun W (q : SlG sgR W v l) => av_Sights v l n d f W q)
  have HB := Lib.hid (fun W (q : SlG sgR W v l) => r23_Sights v l n d f W q)
  have HVal := Lib.hid (fun h => sgt_valid hl (n := n) (d := d) (f := f) h)
  obtain ⟨a1, c1, rfl⟩ := hl.form
  cases hm : longB l
  · rw [hm] at HLo
    obtain ⟨x, hx⟩ : ∃ x, sgtE l n d f = x := ⟨_, rfl⟩
    obtain ⟨S, hS⟩ : ∃ x, sgtS l n d f = x := ⟨_, rfl⟩
    obtain ⟨R, hR⟩ : ∃ x, sgtL l n d f = x := ⟨_, rfl⟩
    rw [hx, hS, hR] at HA HB
    rw [hx, hS] at HVal
    clear hx hS hR hm hl _g0 _g1 _g2
    generalize l.length = m at *
    have t0 : (x == x) = true := beq_iff_eq.2 rfl
    refine lay_start ?_
    go_enter Tryz.func6, Tryz.ntmps6
    go_wp2_with (first | (go_at_call 7; refine (law23_awake _).mono ?_; rintro e w' ⟨rfl, dA, rfl⟩) | (go_at_call 22; refine (HLo.out _ (HL.out.lay _)).mono ?_; rintro e w' ⟨rfl, dL, rfl⟩))
    refine (HA.out _ (HL.out.lay _)).mono ?_
    rintro e w' ⟨v1, d1, rfl, rfl, h1⟩
    rw [lay_bw] at h1 ⊢
    rw [sg_val]
    have H1 := Lib.hid h1
    clear h1
    go_wp2_with fail
    refine (HB.out _ (HL.out.lay _)).mono ?_
    rintro e w' ⟨v2, d2, rfl, rfl, h2⟩
    rw [lay_bw] at h2 ⊢
    rw [sg_val]
    have H2 := Lib.hid h2
    clear h2
    by_cases c : x = 0
    · have hv := HVal.out c
      have HV := Lib.hid (fun W => cor_Valid S W hv.2)
      rw [hv.1, sg_val] at HV
      subst c
      clear hv
      obtain ⟨body, limb, lo, hi, hs, wi, hz, ey, sh, te, pr⟩ := S
      dsimp only at HV ⊢
      go_wp2_with fail
      refine (sl_EqT _ _ R _ (sl_on (A := [_, _, _]) H1.out.sl) (sl_on (A := [_]) H2.out.sl)).mono ?_
      rintro e w' ⟨rfl, d3, rfl⟩
      rw [lay_bw]
      go_wp2_with (go_at_call 25; refine (HV.out _).mono ?_; rintro e w' ⟨rfl, dV, rfl⟩; rw [lay_bw])
      go_ret
      exact ⟨rfl, lay_ex _ _⟩
    · have t1 : (x == 0) = false := beq_eq_false_iff_ne.2 c
      have t2 : (x != 0) = true := bne_iff_ne.2 c
      obtain ⟨body, limb, lo, hi, hs, wi, hz, ey, sh, te, pr⟩ := S
      dsimp only
      clear HVal
      go_wp2_with fail
      refine (sl_EqT _ _ R _ (sl_on (A := [_, _, _]) H1.out.sl) (sl_on (A := [_]) H2.out.sl)).mono ?_
      rintro e w' ⟨rfl, d3, rfl⟩
      rw [lay_bw]
      go_wp2_with fail
      go_ret
      exact ⟨rfl, lay_ex _ _⟩
  · rw [hm] at HLo
    clear hm hl _g0 _g1 _g2
    generalize l.length = m at *
    refine lay_start ?_
    go_enter Tryz.func6, Tryz.ntmps6
    go_wp2_with (first | (go_at_call 7; refine (law23_awake _).mono ?_; rintro e w' ⟨rfl, dA, rfl⟩) | (go_at_call 22; refine (HLo.out _ (HL.out.lay _)).mono ?_; rintro e w' ⟨rfl, dL, rfl⟩))
    go_ret
    exact ⟨rfl, lay_ex _ _⟩
end Go.Proofs.YtmomoeagnkjbiaaGreat
