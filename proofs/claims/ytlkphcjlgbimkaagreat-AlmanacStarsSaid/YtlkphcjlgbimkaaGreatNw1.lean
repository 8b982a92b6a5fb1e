/- almanac.New without pages. -/
import Derived.Test.YtlkphcjlgbimkaaGreatProg
import Derived.Test.YtlkphcjlgbimkaaGreatLay
import Derived.Test.YtlkphcjlgbimkaaGreatRegion
import Derived.Test.YtlkphcjlgbimkaaGreatMix
import Derived.WalkKit
import Derived.WalkSpells
import Derived.WalkLawsBesides
import Derived.Lib.Hide
import Derived.BigQuiet
import Derived.Test.YtlkphcjlgbimkaaGreatNw0
namespace Go.Proofs.YtlkphcjlgbimkaaGreat
open Go.RowKit Go.Shelf

set_option maxHeartbeats 1000000 in
theorem alm_New_nil1 (v : Value) (l : List StarV) (w : World) (hv : SlG stR w v l) (h : catB l = false) :
    Calls Tryz.prog 49 #[.slice none 0 0, v] w fun e w' => e = .returned (.tuple #[.pointer none, .int .i64 1]) ∧ ∃ d, w' = bw w d := by
  have HC := Lib.hid (fun L => cat_Valid v l (lay w L) (hv.lay L))
  rw [h] at HC
  clear h hv
  refine lay_start ?_
  go_enter Tryz.func49, Tryz.ntmps49
  go_wp2_with (first | (go_at_call 53; refine (pgs_ContainsFunc_nil _ _ _ _).mono ?_; rintro e w' ⟨rfl, d, rfl⟩) | (go_at_call 107; refine (HC.out _).mono ?_; rintro e w' ⟨rfl, d, rfl⟩))
  all_goals exact bodyPost_ret (v := .tuple #[.pointer none, .int .i64 1]) (by simp [results, Tryz.results49, go_sem]) rfl ⟨rfl, lay_ex _ _⟩
/-- What New leaves where it makes a book without pages. -/
def NewPost0 (w : World) (l : List StarV) (e : Ending) (w' : World) : Prop :=
  ∃ bk vs d, e = .returned (.tuple #[.pointer (some ⟨bk, 0, none⟩), .int .i64 0]) ∧ w' = bw w d ∧ Bk (bw w d) bk (.slice none 0 0) (.slice none 0 0) vs ∧ SlG stR (bw w d) vs l
theorem bk_new0 (w : World) (L : List (Obj ⊕ Ext)) (t : TypeId) (vd vp vs : Value) : Bk (lay w (.inl (.cells #[vd, vp, vs] t (0, 0)) :: L)) (posn w (shp L)) vd vp vs := by
  have h := lay_get w (.inl (.cells #[vd, vp, vs] t (0, 0)) :: L) 0 _ rfl
  refine ⟨(Array.getElem?_eq_some_iff.1 h).1, ?_, ?_, ?_⟩ <;> (unfold World.cell?; rw [show posn w (shp L) = posn w ((shp (.inl (.cells #[vd, vp, vs] t (0, 0)) :: L)).drop (0 + 1)) from rfl, h]; rfl)
theorem bk_new (w : World) (A L : List (Obj ⊕ Ext)) (t : TypeId) (vd vp vs : Value) : Bk (lay w (A ++ .inl (.cells #[vd, vp, vs] t (0, 0)) :: L)) (posn w (shp L)) vd vp vs := by
  rw [lay_appG]
  exact (bk_new0 w L t vd vp vs).lay A
set_option maxHeartbeats 1000000 in
set_option maxRecDepth 100000 in
theorem alm_New_nil2 (v : Value) (l : List StarV) (w : World) (hv : SlG stR w v l) (h : catB l = true) (hA : l.any (fun x => isA x.s) = true) :
    Calls Tryz.prog 49 #[.slice none 0 0, v] w fun e w' => e = .returned (.tuple #[.pointer none, .int .i64 10]) ∧ ∃ d, w' = bw w d := by
  have hlen := (catB_iff.1 h).len
  have HC := Lib.hid (fun L => cat_Valid v l (lay w L) (hv.lay L))
  rw [h] at HC
  have HCl := Lib.hid (fun L => cln_Star v l (lay w L) (hv.lay L) (by omega))
  have eI : ∀ args w, (callFunc 109 args).run Tryz.prog w = .ok (.enter 109 args) w := enters_of Tryz.func109 (by kernel_rfl) rfl
  have HI := Lib.hid (fun L b' (hb : b' < (lay w L).heap.size) (hc : ∀ d, (lay w (.inr d :: L)).cell? ⟨b', 0, none⟩ = some (.slice none 0 0)) => st_ContainsFunc 109 [.pointer (some ⟨b', 0, none⟩)] (fun x => isA x.s) v l (lay w L) (hv.lay L) eI (fun x _ d =>
    alm_New2_nil x b' (lay w (.inr d :: L)) (Nat.lt_of_lt_of_le hb (bw_le _ d)) (hc d) |>.mono fun e w' ⟨h1, d2, h2⟩ => ⟨h1, _, h2.trans (bw_bw _ _ _)⟩))
  rw [hA] at HI
  clear h hv hA hlen eI
  refine lay_start ?_
  go_enter Tryz.func49, Tryz.ntmps49
  go_wp2_with (first | (go_at_call 53; refine (pgs_ContainsFunc_nil _ _ _ _).mono ?_; rintro e w' ⟨rfl, d1, rfl⟩) | (go_at_call 107; refine (HC.out _).mono ?_; rintro e w' ⟨rfl, d2, rfl⟩) | (go_at_call 98; refine (alm_copied_nil _).mono ?_; rintro e w' ⟨rfl, d3, rfl⟩))
  refine (HCl.out _).mono ?_
  rintro e w' ⟨v', d4, rfl, rfl, h4⟩
  have H4 := Lib.hid (h4.sl stOk)
  obtain ⟨va, vc, rfl⟩ := h4.form
  clear h4
  rw [lay_bw] at H4 ⊢
  go_wp2_with fail
  refine wp_loop_rounds 1 ?_
  rw [rounds_succ]
  go_wp2_with fail
  refine (alm_tracked_nil _ _ _ _ (bk_new0 w [.inr d4, .inr d3, .inr d2, .inr d1] _ _ _ _)).mono ?_
  rintro e w' ⟨rfl, d5, rfl⟩
  rw [lay_bw]
  go_wp2_with (first | (go_at_call 63; refine (Tryz.slices_Contains_string_empty _ _ _ _).mono ?_; rintro e w' ⟨rfl, rfl⟩))
  refine (HI.out _ _ (by simp only [lay_size, shp, posn, List.sum_cons, List.sum_nil]; omega) (fun d => by simp [go_sem])).mono ?_
  rintro e w' ⟨rfl, d6, rfl⟩
  rw [lay_bw]
  go_wp2_with fail
  all_goals exact bodyPost_ret (v := .tuple #[.pointer none, .int .i64 10]) (by simp [results, Tryz.results49, go_sem]) rfl ⟨rfl, lay_ex _ _⟩
set_option maxHeartbeats 1000000 in
set_option maxRecDepth 100000 in
theorem alm_New_nil3 (v : Value) (l : List StarV) (w : World) (hv : SlG stR w v l) (h : catB l = true) (hA : l.any (fun x => isA x.s) = false) :
    Calls Tryz.prog 49 #[.slice none 0 0, v] w (NewPost0 w l) := by
  have hlen := (catB_iff.1 h).len
  have HC := Lib.hid (fun L => cat_Valid v l (lay w L) (hv.lay L))
  rw [h] at HC
  have HCl := Lib.hid (fun L => cln_Star v l (lay w L) (hv.lay L) (by omega))
  have eI : ∀ args w, (callFunc 109 args).run Tryz.prog w = .ok (.enter 109 args) w := enters_of Tryz.func109 (by kernel_rfl) rfl
  have HI := Lib.hid (fun L b' (hb : b' < (lay w L).heap.size) (hc : ∀ d, (lay w (.inr d :: L)).cell? ⟨b', 0, none⟩ = some (.slice none 0 0)) => st_ContainsFunc 109 [.pointer (some ⟨b', 0, none⟩)] (fun x => isA x.s) v l (lay w L) (hv.lay L) eI (fun x _ d =>
    alm_New2_nil x b' (lay w (.inr d :: L)) (Nat.lt_of_lt_of_le hb (bw_le _ d)) (hc d) |>.mono fun e w' ⟨h1, d2, h2⟩ => ⟨h1, _, h2.trans (bw_bw _ _ _)⟩))
  rw [hA] at HI
  clear h hv hA hlen eI
  unfold NewPost0
  refine lay_start ?_
  go_enter Tryz.func49, Tryz.ntmps49
  go_wp2_with (first | (go_at_call 53; refine (pgs_ContainsFunc_nil _ _ _ _).mono ?_; rintro e w' ⟨rfl, d1, rfl⟩) | (go_at_call 107; refine (HC.out _).mono ?_; rintro e w' ⟨rfl, d2, rfl⟩) | (go_at_call 98; refine (alm_copied_nil _).mono ?_; rintro e w' ⟨rfl, d3, rfl⟩))
  refine (HCl.out _).mono ?_
  rintro e w' ⟨v', d4, rfl, rfl, h4⟩
  have H4 := Lib.hid (h4.sl stOk)
  obtain ⟨va, vc, rfl⟩ := h4.form
  clear h4
  rw [lay_bw] at H4 ⊢
  go_wp2_with fail
  refine wp_loop_rounds 1 ?_
  rw [rounds_succ]
  go_wp2_with fail
  refine (alm_tracked_nil _ _ _ _ (bk_new0 w [.inr d4, .inr d3, .inr d2, .inr d1] _ _ _ _)).mono ?_
  rintro e w' ⟨rfl, d5, rfl⟩
  rw [lay_bw]
  go_wp2_with (first | (go_at_call 63; refine (Tryz.slices_Contains_string_empty _ _ _ _).mono ?_; rintro e w' ⟨rfl, rfl⟩))
  refine (HI.out _ _ (by simp only [lay_size, shp, posn, List.sum_cons, List.sum_nil]; omega) (fun d => by simp [go_sem])).mono ?_
  rintro e w' ⟨rfl, d6, rfl⟩
  rw [lay_bw]
  go_wp2_with fail
  obtain ⟨z, hz⟩ := lay_ex w [.inr d6, .inl (.cells #[.slice none 0 0] 76 (0, 0)), .inr d5, .inl (.cells #[.slice none 0 0, .slice none 0 0, .slice va l.length vc] 107 (0, 0)), .inr d4, .inr d3, .inr d2, .inr d1]
  exact bodyPost_ret (v := .tuple #[.pointer (some ⟨posn w (shp [.inr d4, .inr d3, .inr d2, .inr d1]), 0, none⟩), .int .i64 0]) (by simp [results, Tryz.results49, go_sem]) rfl
    ⟨_, _, z, rfl, hz, hz ▸ bk_new w [_, _, _] _ _ _ _ _, hz ▸ slG_on (A := [_, _, _, _]) H4.out⟩
end Go.Proofs.YtlkphcjlgbimkaaGreat
