/- The example of chapter 17 (awake); right. -/
import Derived.Test.YtlkphcjlgbimkaaGreatProg
import Derived.Test.YtlkphcjlgbimkaaGreatLay
import Derived.Test.YtlkphcjlgbimkaaGreatRegion
import Derived.Test.YtlkphcjlgbimkaaGreatMix
import Derived.WalkKit
import Derived.WalkSpells
import Derived.WalkLawsBesides
import Derived.Lib.Hide
import Derived.BigQuiet
import Derived.Test.YtlkphcjlgbimkaaGreatNw2
import Derived.Test.YtlkphcjlgbimkaaGreatShs
import Derived.Test.YtlkphcjlgbimkaaGreatAlm5
namespace Go.Proofs.YtlkphcjlgbimkaaGreat
open Go.RowKit Go.Shelf

theorem tracked_nil_post (bk : Nat) (vd vs : Value) (w : World) (hB : Bk w bk vd (.slice none 0 0) vs) :
    Calls Tryz.prog 64 #[.pointer (some ⟨bk, 0, none⟩)] w (StrPost w []) :=
  (alm_tracked_nil bk vd vs w hB).mono fun _ _ ⟨h1, d, h2⟩ => ⟨none, 0, d, h1, h2, fun _ => rfl, SlG.nil _ _⟩
def vegaS : ByteArray := ⟨#[86, 101, 103, 97]⟩
def vegaV : StarV := ⟨vegaS, 48000, 0, 0⟩
theorem vega_name : nameB vegaS = true := by
  refine nameB_iff.2 ⟨by decide, by decide, fun i hi => ?_, by decide⟩
  have h4 : i < 4 := hi
  match i, h4 with
  | 0, _ => decide
  | 1, _ => decide
  | 2, _ => decide
  | 3, _ => decide
theorem vega_cat : catB [vegaV] = true := by
  refine catB_iff.2 ⟨by decide, fun i x hx => ?_⟩
  cases i with
  | zero =>
    simp only [List.getElem?_cons_zero, Option.some.injEq] at hx
    subst hx
    refine ⟨vega_name, by decide, ?_⟩
    show (if (vegaS.toList == vegaS.toList) then ((0 : Nat) : Int) else _) = _
    rw [if_pos (beq_self_eq_true _)]
  | succ i => simp at hx
theorem vega_find : fndS [vegaV] vegaS = ((0 : Nat) : Int) := by
  show (if (vegaS.toList == vegaS.toList) then ((0 : Nat) : Int) else _) = _
  rw [if_pos (beq_self_eq_true _)]
theorem vega_list : vegaS.toList = [86, 101, 103, 97] := by rw [ByteArray.toList_eq]; rfl
theorem vega_notA : [vegaV].any (fun x => isA x.s) = false := by
  show (isA vegaS || false) = false
  unfold isA
  rw [vega_list]
  rfl
theorem eg_ag : agL 0 0 = 5998067 ∧ agH 0 0 = 5998068 := by decide +kernel
theorem eg_sg : sgL 0 0 48000 = 10798017 ∧ sgH 0 0 48000 = 10798118 := by decide +kernel
theorem vega_lit (w : World) (L : List (Obj ⊕ Ext)) : SlG stR (lay w (.inl (.cells #[.string vegaS, .int .i64 48000, .int .i64 0, .int .i64 0] 70 (0, 0)) :: L)) (.slice (some ⟨posn w (shp L), 0, none⟩) 1 1) [vegaV] :=
  (owG_lit stOk [vegaV] rfl (by decide) (by intro x hx; rw [List.mem_singleton.1 hx]; exact ⟨by decide, by decide, by decide, by decide⟩)).sl stOk
theorem two_lit (w : World) (L : List (Obj ⊕ Ext)) : SlG strR (lay w (.inl (.cells #[.string ariesS, .string vegaS] 9 (0, 0)) :: L)) (.slice (some ⟨posn w (shp L), 0, none⟩) 2 2) [ariesS, vegaS] :=
  (owG_lit strOk [ariesS, vegaS] rfl (by decide) (by
    intro x hx
    simp only [List.mem_cons, List.not_mem_nil, or_false] at hx
    rcases hx with rfl | rfl
    · exact (by decide : ariesS.size ≤ 9223372036854775807)
    · exact (by decide : vegaS.size ≤ 9223372036854775807))).sl strOk
set_option maxHeartbeats 2000000 in
set_option maxRecDepth 100000 in
theorem law17_awake (w : World) :
    Calls Tryz.prog 11 #[] w fun e w' => e = .returned (.bool true) ∧ ∃ d, w' = bw w d := by
  refine lay_start ?_
  go_enter Tryz.func11, Tryz.ntmps11
  go_wp2_with fail
  refine (alm_New_nil3 _ [vegaV] _ (vega_lit w []) vega_cat vega_notA).mono ?_
  rintro e w' ⟨bk, vs, d1, rfl, rfl, hB, hS⟩
  rw [lay_bw] at hB hS ⊢
  have HB := Lib.hid hB
  have HA := Lib.hid (fun L => alm_Aries bk _ _ vs [vegaV] 0 0 (lay _ L) (hB.lay L) (hS.lay L) (by decide) (by decide))
  rw [eg_ag.1, eg_ag.2] at HA
  have HW := Lib.hid (fun L => alm_Where_star bk _ _ vs [vegaV] 0 vegaV vegaS 0 0 (lay _ L) (hB.lay L) (hS.lay L) rfl vega_find (by rw [vega_list]; rfl) (by decide) (by decide) (by decide) (by decide) (by decide) (by decide))
  change Hid (∀ L, Calls Tryz.prog _ _ _ fun e w' => e = .returned (.tuple #[(.agg #[.int .i64 (sgL 0 0 48000), .int .i64 (sgH 0 0 48000), .int .i64 (dcL 0), .int .i64 (dcH 0), .int .i64 (0), .int .i64 (0), .int .i64 (0), .int .i64 (0)]), .int .i64 0]) ∧ ∃ d, w' = bw _ d) at HW
  rw [eg_sg.1, eg_sg.2] at HW
  have HBo := Lib.hid (fun L => alm_Bodies bk _ _ vs [vegaV] [] (lay _ L) (hB.lay L) (hS.lay L) (fun L' => tracked_nil_post bk _ vs _ ((hB.lay L).lay L')) (by decide) (by decide))
  simp only [← lay_appG] at HA HW HBo
  clear hB hS
  go_wp2_with fail
  refine (HA.out []).mono ?_
  rintro e w' ⟨rfl, d2, rfl⟩
  rw [List.nil_append, lay_bw]
  go_wp2_with fail
  refine (HW.out [_, _]).mono ?_
  rintro e w' ⟨rfl, d3, rfl⟩
  rw [lay_bw]
  go_wp2_with fail
  refine (HBo.out [_, _, _, _]).mono ?_
  rintro e w' ⟨v4, d4, rfl, rfl, hO⟩
  rw [lay_bw] at hO ⊢
  have H4 : Hid (SlG strR _ v4 [ariesS, vegaS]) := Lib.hid (hO.sl strOk)
  clear hO HB
  go_wp2_with fail
  refine (str_Equal _ _ [ariesS, vegaS] [ariesS, vegaS] _ (slG_on (A := [_]) H4.out) (two_lit w _)).mono ?_
  rintro e w' ⟨rfl, d5, rfl⟩
  rw [lay_bw, decide_eq_true rfl]
  go_wp2_with fail
  go_ret
  exact ⟨rfl, lay_ex _ _⟩
end Go.Proofs.YtlkphcjlgbimkaaGreat
