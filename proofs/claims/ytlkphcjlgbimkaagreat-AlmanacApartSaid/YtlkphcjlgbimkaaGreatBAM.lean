/- Contracts and plain laws, several texts in one: Nw1; Nw2; Bod; Shs -/
import Derived.Test.YtlkphcjlgbimkaaGreatProg
import Derived.WalkKit
import Derived.WalkSpells
import Derived.WalkLawsBesides
import Derived.Lib.Hide
import Derived.BigQuiet
import Derived.Test.YtlkphcjlgbimkaaGreatBAA
import Derived.Test.YtlkphcjlgbimkaaGreatBAB
import Derived.Test.YtlkphcjlgbimkaaGreatBAG
import Derived.Test.YtlkphcjlgbimkaaGreatBAK
import Derived.Test.YtlkphcjlgbimkaaGreatBAL
/- almanac.New without pages. -/
namespace Go.Proofs.YtlkphcjlgbimkaaGreat
open Go.RowKit Go.Shelf

set_option maxHeartbeats 1000000 in
theorem alm_New_nil1 (v : Value) (l : List StarV) (w : World) (hv : SlG stR w v l) (h : catB l = false) :
    Calls Tryz.prog 49 #[.slice none 0 0, v] w fun e w' => e = .returned (.tuple #[.pointer none, .int .i64 1]) ∧ ∃ d, w' = bw w d := by
  have HC := Lib.hid (fun L => cat_Valid v l (lay w L) (hv.lay L))
  rw [h] at HC
  clear h hv
  refine lay_start ?_
  go_enter Tryz.func49, Tryz.ntmps49
  go_wp2_with (first | (go_at_call 53; refine (pgs_ContainsFunc_nil _ _ _ _).mono ?_; rintro e w' ⟨rfl, d, rfl⟩) | (go_at_call 107; refine (HC.out _).mono ?_; rintro e w' ⟨rfl, d, rfl⟩))
  all_goals exact bodyPost_ret (v := .tuple #[.pointer none, .int .i64 1]) (by simp [results, Tryz.results49, go_sem]) rfl ⟨rfl, lay_ex _ _⟩
/-- What New leaves where it makes a book without pages. -/
def NewPost0 (w : World) (l : List StarV) (e : Ending) (w' : World) : Prop :=
  ∃ bk vs d, e = .returned (.tuple #[.pointer (some ⟨bk, 0, none⟩), .int .i64 0]) ∧ w' = bw w d ∧ Bk (bw w d) bk (.slice none 0 0) (.slice none 0 0) vs ∧ SlG stR (bw w d) vs l
theorem bk_new0 (w : World) (L : List (Obj ⊕ Ext)) (t : TypeId) (vd vp vs : Value) : Bk (lay w (.inl (.cells #[vd, vp, vs] t (0, 0)) :: L)) (posn w (shp L)) vd vp vs := by
  have h := lay_get w (.inl (.cells #[vd, vp, vs] t (0, 0)) :: L) 0 _ rfl
  refine ⟨(Array.getElem?_eq_some_iff.1 h).1, ?_, ?_, ?_⟩ <;> (unfold World.cell?; rw [show posn w (shp L) = posn w ((shp (.inl (.cells #[vd, vp, vs] t (0, 0)) :: L)).drop (0 + 1)) from rfl, h]; rfl)
theorem bk_new (w : World) (A L : List (Obj ⊕ Ext)) (t : TypeId) (vd vp vs : Value) : Bk (lay w (A ++ .inl (.cells #[vd, vp, vs] t (0, 0)) :: L)) (posn w (shp L)) vd vp vs := by
  rw [lay_appG]
  exact (bk_new0 w L t vd vp vs).lay A
set_option maxHeartbeats 1000000 in
set_option maxRecDepth 100000 in
theorem alm_New_nil2 (v : Value) (l : List StarV) (w : World) (hv : SlG stR w v l) (h : catB l = true) (hA : l.any (fun x => isA x.s) = true) :
    Calls Tryz.prog 49 #[.slice none 0 0, v] w fun e w' => e = .returned (.tuple #[.pointer none, .int .i64 10]) ∧ ∃ d, w' = bw w d := by
  have hlen := (catB_iff.1 h).len
  have HC := Lib.hid (fun L => cat_Valid v l (lay w L) (hv.lay L))
  rw [h] at HC
  have HCl := Lib.hid (fun L => cln_Star v l (lay w L) (hv.lay L) (by omega))
  have eI : ∀ args w, (callFunc 109 args).run Tryz.prog w = .ok (.enter 109 args) w := enters_of Tryz.func109 (by kernel_rfl) rfl
  have HI := Lib.hid (fun L b' (hb : b' < (lay w L).heap.size) (hc : ∀ d, (lay w (.inr d :: L)).cell? ⟨b', 0, none⟩ = some (.slice none 0 0)) => st_ContainsFunc 109 [.pointer (some ⟨b', 0, none⟩)] (fun x => isA x.s) v l (lay w L) (hv.lay L) eI (fun x _ d =>
    alm_New2_nil x b' (lay w (.inr d :: L)) (Nat.lt_of_lt_of_le hb (bw_le _ d)) (hc d) |>.mono fun e w' ⟨h1, d2, h2⟩ => ⟨h1, _, h2.trans (bw_bw _ _ _)⟩))
  rw [hA] at HI
  clear h hv hA hlen eI
  refine lay_start ?_
  go_enter Tryz.func49, Tryz.ntmps49
  go_wp2_with (first | (go_at_call 53; refine (pgs_ContainsFunc_nil _ _ _ _).mono ?_; rintro e w' ⟨rfl, d1, rfl⟩) | (go_at_call 107; refine (HC.out _).mono ?_; rintro e w' ⟨rfl, d2, rfl⟩) | (go_at_call 98; refine (alm_copied_nil _).mono ?_; rintro e w' ⟨rfl, d3, rfl⟩))
  refine (HCl.out _).mono ?_
  rintro e w' ⟨v', d4, rfl, rfl, h4⟩
  have H4 := Lib.hid (h4.sl stOk)
  obtain ⟨va, vc, rfl⟩ := h4.form
  clear h4
  rw [lay_bw] at H4 ⊢
  go_wp2_with fail
  refine wp_loop_rounds 1 ?_
  rw [rounds_succ]
  go_wp2_with fail
  refine (alm_tracked_nil _ _ _ _ (bk_new0 w [.inr d4, .inr d3, .inr d2, .inr d1] _ _ _ _)).mono ?_
  rintro e w' ⟨rfl, d5, rfl⟩
  rw [lay_bw]
  go_wp2_with (first | (go_at_call 63; refine (Tryz.slices_Contains_string_empty _ _ _ _).mono ?_; rintro e w' ⟨rfl, rfl⟩))
  refine (HI.out _ _ (by simp only [lay_size, shp, posn, List.sum_cons, List.sum_nil]; omega) (fun d => by simp [go_sem])).mono ?_
  rintro e w' ⟨rfl, d6, rfl⟩
  rw [lay_bw]
  go_wp2_with fail
  all_goals exact bodyPost_ret (v := .tuple #[.pointer none, .int .i64 10]) (by simp [results, Tryz.results49, go_sem]) rfl ⟨rfl, lay_ex _ _⟩
set_option maxHeartbeats 1000000 in
set_option maxRecDepth 100000 in
theorem alm_New_nil3 (v : Value) (l : List StarV) (w : World) (hv : SlG stR w v l) (h : catB l = true) (hA : l.any (fun x => isA x.s) = false) :
    Calls Tryz.prog 49 #[.slice none 0 0, v] w (NewPost0 w l) := by
  have hlen := (catB_iff.1 h).len
  have HC := Lib.hid (fun L => cat_Valid v l (lay w L) (hv.lay L))
  rw [h] at HC
  have HCl := Lib.hid (fun L => cln_Star v l (lay w L) (hv.lay L) (by omega))
  have eI : ∀ args w, (callFunc 109 args).run Tryz.prog w = .ok (.enter 109 args) w := enters_of Tryz.func109 (by kernel_rfl) rfl
  have HI := Lib.hid (fun L b' (hb : b' < (lay w L).heap.size) (hc : ∀ d, (lay w (.inr d :: L)).cell? ⟨b', 0, none⟩ = some (.slice none 0 0)) => st_ContainsFunc 109 [.pointer (some ⟨b', 0, none⟩)] (fun x => isA x.s) v l (lay w L) (hv.lay L) eI (fun x _ d =>
    alm_New2_nil x b' (lay w (.inr d :: L)) (Nat.lt_of_lt_of_le hb (bw_le _ d)) (hc d) |>.mono fun e w' ⟨h1, d2, h2⟩ => ⟨h1, _, h2.trans (bw_bw _ _ _)⟩))
  rw [hA] at HI
  clear h hv hA hlen eI
  unfold NewPost0
  refine lay_start ?_
  go_enter Tryz.func49, Tryz.ntmps49
  go_wp2_with (first | (go_at_call 53; refine (pgs_ContainsFunc_nil _ _ _ _).mono ?_; rintro e w' ⟨rfl, d1, rfl⟩) | (go_at_call 107; refine (HC.out _).mono ?_; rintro e w' ⟨rfl, d2, rfl⟩) | (go_at_call 98; refine (alm_copied_nil _).mono ?_; rintro e w' ⟨rfl, d3, rfl⟩))
  refine (HCl.out _).mono ?_
  rintro e w' ⟨v', d4, rfl, rfl, h4⟩
  have H4 := Lib.hid (h4.sl stOk)
  obtain ⟨va, vc, rfl⟩ := h4.form
  clear h4
  rw [lay_bw] at H4 ⊢
  go_wp2_with fail
  refine wp_loop_rounds 1 ?_
  rw [rounds_succ]
  go_wp2_with fail
  refine (alm_tracked_nil _ _ _ _ (bk_new0 w [.inr d4, .inr d3, .inr d2, .inr d1] _ _ _ _)).mono ?_
  rintro e w' ⟨rfl, d5, rfl⟩
  rw [lay_bw]
  go_wp2_with (first | (go_at_call 63; refine (Tryz.slices_Contains_string_empty _ _ _ _).mono ?_; rintro e w' ⟨rfl, rfl⟩))
  refine (HI.out _ _ (by simp only [lay_size, shp, posn, List.sum_cons, List.sum_nil]; omega) (fun d => by simp [go_sem])).mono ?_
  rintro e w' ⟨rfl, d6, rfl⟩
  rw [lay_bw]
  go_wp2_with fail
  obtain ⟨z, hz⟩ := lay_ex w [.inr d6, .inl (.cells #[.slice none 0 0] 76 (0, 0)), .inr d5, .inl (.cells #[.slice none 0 0, .slice none 0 0, .slice va l.length vc] 107 (0, 0)), .inr d4, .inr d3, .inr d2, .inr d1]
  exact bodyPost_ret (v := .tuple #[.pointer (some ⟨posn w (shp [.inr d4, .inr d3, .inr d2, .inr d1]), 0, none⟩), .int .i64 0]) (by simp [results, Tryz.results49, go_sem]) rfl
    ⟨_, _, z, rfl, hz, hz ▸ bk_new w [_, _, _] _ _ _ _ _, hz ▸ slG_on (A := [_, _, _, _]) H4.out⟩
end Go.Proofs.YtlkphcjlgbimkaaGreat
/- Without pages: the reference's New, the law's made, large. -/
namespace Go.Proofs.YtlkphcjlgbimkaaGreat
open Go.RowKit Go.Shelf

set_option maxHeartbeats 1000000 in
theorem ref17_Tracked_nil (vs : Value) (l : List StarV) (w : World) (hv : SlG stR w vs l) :
    Calls Tryz.prog 94 #[.agg #[.slice none 0 0, vs]] w fun e w' => e = .returned (.slice none 0 0) ∧ ∃ d, w' = bw w d := by
  obtain ⟨a, c, rfl⟩ := hv.form
  generalize l.length = m
  clear hv
  refine lay_start ?_
  go_enter Tryz.func94, Tryz.ntmps94
  go_wp2_with fail
  refine wp_loop_rounds 1 ?_
  rw [rounds_succ]
  go_wp2
  go_ret
  exact ⟨rfl, lay_ex _ _⟩
theorem find_aries (l : List StarV) : decide (0 ≤ fndS l ariesS) = l.any (fun x => isA x.s) := by
  unfold fndS
  rw [idxR_any]
  congr 1
  funext x
  unfold nmB isA
  rw [aries_list]
/-- The error number of a book without pages. -/
noncomputable def newE0 (l : List StarV) : Int := if catB l = false then 1 else if l.any (fun x => isA x.s) = true then 10 else 0
set_option maxHeartbeats 1000000 in
theorem ref17_New_nil (v : Value) (l : List StarV) (w : World) (hv : SlG stR w v l) :
    Calls Tryz.prog 59 #[.slice none 0 0, v] w fun e w' => e = .returned (.int .i64 (newE0 l)) ∧ ∃ d, w' = bw w d := by
  have HC := Lib.hid (fun L => ref16_Valid v l (lay w L) (hv.lay L))
  have HF := Lib.hid (fun L => ref16_Find v l ariesS (lay w L) (hv.lay L))
  have HT := Lib.hid (fun L => ref17_Tracked_nil v l (lay w L) (hv.lay L))
  have hA := find_aries l
  have hE : newE0 l = if catB l = false then 1 else if l.any (fun x => isA x.s) = true then 10 else 0 := rfl
  rw [hE]
  unfold IdxPost at HF
  generalize l.any (fun x => isA x.s) = y at *
  generalize fndS l ariesS = i at *
  generalize catB l = c at *
  obtain ⟨sa, sc, rfl⟩ := hv.form
  generalize l.length = m at *
  clear hv hE
  cases c
  · rw [if_pos rfl]
    refine lay_start ?_
    go_enter Tryz.func59, Tryz.ntmps59
    go_wp2_with fail
    refine wp_loop_rounds 1 ?_
    rw [rounds_succ]
    go_wp2_with (go_at_call 28; refine (HC.out _).mono ?_; rintro e w' ⟨rfl, d, rfl⟩)
    go_ret
    exact ⟨rfl, lay_ex _ _⟩
  · rw [if_neg (by decide)]
    cases y
    · rw [if_neg (by decide)]
      refine lay_start ?_
      go_enter Tryz.func59, Tryz.ntmps59
      go_wp2_with fail
      refine wp_loop_rounds 1 ?_
      rw [rounds_succ]
      go_wp2_with (go_at_call 28; refine (HC.out _).mono ?_; rintro e w' ⟨rfl, d, rfl⟩)
      refine wp_loop_rounds 1 ?_
      rw [rounds_succ]
      go_wp2_with (go_at_call 94; refine (HT.out _).mono ?_; rintro e w' ⟨rfl, d, rfl⟩)
      refine wp_loop_rounds 1 ?_
      rw [rounds_succ]
      go_wp2_with (go_at_call 70; refine (HF.out _).mono ?_; rintro e w' ⟨rfl, d, rfl⟩)
      go_ret
      exact ⟨rfl, lay_ex _ _⟩
    · rw [if_pos rfl]
      refine lay_start ?_
      go_enter Tryz.func59, Tryz.ntmps59
      go_wp2_with fail
      refine wp_loop_rounds 1 ?_
      rw [rounds_succ]
      go_wp2_with (go_at_call 28; refine (HC.out _).mono ?_; rintro e w' ⟨rfl, d, rfl⟩)
      refine wp_loop_rounds 1 ?_
      rw [rounds_succ]
      go_wp2_with (go_at_call 94; refine (HT.out _).mono ?_; rintro e w' ⟨rfl, d, rfl⟩)
      refine wp_loop_rounds 1 ?_
      rw [rounds_succ]
      go_wp2_with (go_at_call 70; refine (HF.out _).mono ?_; rintro e w' ⟨rfl, d, rfl⟩)
      go_ret
      exact ⟨rfl, lay_ex _ _⟩
set_option maxHeartbeats 1000000 in
theorem law17_made_bad (v : Value) (l : List StarV) (w : World) (hv : SlG stR w v l) (h : catB l = true) (hA : l.any (fun x => isA x.s) = true) :
    Calls Tryz.prog 13 #[.slice none 0 0, v] w fun e w' => e = .returned (.tuple #[.pointer none, .bool true]) ∧ ∃ d, w' = bw w d := by
  have HN := Lib.hid (fun L => alm_New_nil2 v l (lay w L) (hv.lay L) h hA)
  have HR := Lib.hid (fun L => ref17_New_nil v l (lay w L) (hv.lay L))
  have hE : newE0 l = 10 := by unfold newE0; rw [h, hA]; rfl
  rw [hE] at HR
  clear h hA hv hE
  refine lay_start ?_
  go_enter Tryz.func13, Tryz.ntmps13
  go_wp2_with (first | (go_at_call 49; refine (HN.out _).mono ?_; rintro e w' ⟨rfl, d, rfl⟩) | (go_at_call 59; refine (HR.out _).mono ?_; rintro e w' ⟨rfl, d, rfl⟩))
  all_goals exact bodyPost_ret (v := .tuple #[.pointer none, .bool true]) (by simp [results, Tryz.results13, go_sem]) rfl ⟨rfl, lay_ex _ _⟩
def MadePost0 (w : World) (l : List StarV) (e : Ending) (w' : World) : Prop :=
  ∃ bk vs d, e = .returned (.tuple #[.pointer (some ⟨bk, 0, none⟩), .bool true]) ∧ w' = bw w d ∧ Bk (bw w d) bk (.slice none 0 0) (.slice none 0 0) vs ∧ SlG stR (bw w d) vs l
set_option maxHeartbeats 1000000 in
theorem law17_made_ok (v : Value) (l : List StarV) (w : World) (hv : SlG stR w v l) (h : catB l = true) (hA : l.any (fun x => isA x.s) = false) :
    Calls Tryz.prog 13 #[.slice none 0 0, v] w (MadePost0 w l) := by
  have HN := Lib.hid (fun L => alm_New_nil3 v l (lay w L) (hv.lay L) h hA)
  have HR := Lib.hid (fun L => ref17_New_nil v l (lay w L) (hv.lay L))
  have hE : newE0 l = 0 := by unfold newE0; rw [h, hA]; rfl
  rw [hE] at HR
  clear h hA hv hE
  unfold MadePost0
  refine lay_start ?_
  go_enter Tryz.func13, Tryz.ntmps13
  go_wp2_with fail
  refine (HN.out _).mono ?_
  rintro e w' ⟨bk, vs, d, rfl, rfl, hB, hS⟩
  rw [lay_bw] at hB hS ⊢
  have HB := Lib.hid hB
  have HS := Lib.hid hS
  clear hB hS
  go_wp2_with (first | (go_at_call 59; refine (HR.out _).mono ?_; rintro e w' ⟨rfl, d2, rfl⟩))
  obtain ⟨z, hz⟩ := lay_ex w [.inr d2, .inr d]
  exact bodyPost_ret (v := .tuple #[.pointer (some ⟨bk, 0, none⟩), .bool true]) (by simp [results, Tryz.results13, go_sem]) rfl ⟨_, _, z, rfl, hz, hz ▸ HB.out.lay [.inr d2], hz ▸ HS.out.lay [.inr d2]⟩
set_option maxHeartbeats 1000000 in
theorem law17_large2 (x : StarV) (w : World) :
    Calls Tryz.prog 58 #[.agg #[.string x.s, .int .i64 x.sha, .int .i64 x.dec, .int .i64 x.mag]] w fun e w' => e = .returned (.bool (decide ((100 : Int) < (x.s.size : Int)))) ∧ ∃ d, w' = bw w d := by
  obtain ⟨xs, x1, x2, x3⟩ := x
  dsimp only
  refine lay_start ?_
  go_enter Tryz.func58, Tryz.ntmps58
  go_wp2
  go_ret
  exact ⟨rfl, lay_ex _ _⟩
def AnyB (w : World) (e : Ending) (w' : World) : Prop := ∃ r, e = .returned (.bool r) ∧ ∃ d, w' = bw w d
set_option maxHeartbeats 1000000 in
theorem law17_large_nil (v : Value) (l : List StarV) (w : World) (hv : SlG stR w v l) :
    Calls Tryz.prog 12 #[.slice none 0 0, v] w (AnyB w) := by
  have eI : ∀ args w, (callFunc 58 args).run Tryz.prog w = .ok (.enter 58 args) w := enters_of Tryz.func58 (by kernel_rfl) rfl
  have HI := Lib.hid (fun L => st_ContainsFunc 58 [] (fun x => decide ((100 : Int) < (x.s.size : Int))) v l (lay w L) (hv.lay L) eI (fun x _ d => (law17_large2 x (bw (lay w L) d)).mono fun e w' ⟨h1, d2, h2⟩ => ⟨h1, _, h2.trans (bw_bw _ _ _)⟩))
  generalize l.any (fun x => decide ((100 : Int) < (x.s.size : Int))) = y at *
  obtain ⟨a, c, rfl⟩ := hv.form
  generalize l.length = m at *
  clear hv eI
  refine lay_start ?_
  go_enter Tryz.func12, Tryz.ntmps12
  go_wp2_with (first | (go_at_call 53; refine (pgs_ContainsFunc_nil _ _ _ _).mono ?_; rintro e w' ⟨rfl, d, rfl⟩) | (go_at_call 57; refine (HI.out _).mono ?_; rintro e w' ⟨rfl, d, rfl⟩))
  all_goals go_ret
  all_goals exact ⟨_, rfl, lay_ex _ _⟩
end Go.Proofs.YtlkphcjlgbimkaaGreat
/- Rows of strings; (*almanac.Book).Bodies. -/
namespace Go.Proofs.YtlkphcjlgbimkaaGreat
open Go.RowKit

def strR : RecT ByteArray := { E := 9, S := 76, k := 1, bytes := 16, enc := fun x => [.string x], wf := fun x => x.size ≤ 9223372036854775807 }
theorem info_str : (Tryz.prog.info? 9).map (fun i => (i.zero.map (fun z => z.cells.size), i.size, i.bytes)) = some (some 1, 1, 16) := by kernel_rfl
theorem strOk : RecOk strR where
  len _ := rfl
  one x u hu := by
    simp only [strR, List.mem_cons, List.not_mem_nil, or_false] at hu
    rcases hu with rfl
    rfl
  pos := by decide
  und := Tryz.underlying76
  info := recInfo info_str
  small := by decide
/-- A slice of strings is returned that reads so. -/
def StrPost (w : World) (T : List ByteArray) (e : Ending) (w' : World) : Prop := ∃ A c d, e = .returned (.slice A T.length c) ∧ w' = bw w d ∧ (A = none → c = 0) ∧ SlG strR (bw w d) (.slice A T.length c) T
def StrOwn (w : World) (T : List ByteArray) (e : Ending) (w' : World) : Prop := ∃ v d, e = .returned v ∧ w' = bw w d ∧ OwG strR (bw w d) w.heap.size v T
theorem str_flat1 (s : ByteArray) : (#[Value.string s] : Array Value).toList = [s].flatMap strR.enc := rfl
theorem aries_wf : ∀ x ∈ [ariesS], strR.wf x := by
  intro x hx
  rw [List.mem_singleton.1 hx]
  exact (by decide : ariesS.size ≤ 9223372036854775807)
set_option maxHeartbeats 1000000 in
set_option maxRecDepth 100000 in
theorem alm_Bodies (bk : Nat) (vd vp vs : Value) (l : List StarV) (T : List ByteArray) (w : World) (hB : Bk w bk vd vp vs) (hv : SlG stR w vs l)
    (hT : ∀ L, Calls Tryz.prog 64 #[.pointer (some ⟨bk, 0, none⟩)] (lay w L) (StrPost (lay w L) T)) (hl : l.length ≤ 1000000) (hT1 : T.length ≤ 1000000) :
    Calls Tryz.prog 33 #[.pointer (some ⟨bk, 0, none⟩)] w (StrOwn w ([ariesS] ++ T ++ l.map StarV.s)) := by
  have HT := Lib.hid hT
  have HT1 := Lib.hid hT1
  have HL := Lib.hid hl
  have HV := Lib.hid hv
  obtain ⟨k0, k1, k2, k3⟩ := hB
  clear hT hl hT1
  by_cases hz : l = []
  · subst hz
    obtain ⟨sa, sc, rfl⟩ := hv.form
    clear hv
    refine lay_start ?_
    go_enter Tryz.func33, Tryz.ntmps33
    go_wp2_with fail
    refine (HT.out _).mono ?_
    rintro e w' ⟨A, c, d1, rfl, rfl, hA, hS⟩
    rw [lay_bw] at hS ⊢
    have HS := Lib.hid hS
    have HA := Lib.hid hA
    clear hS hA
    go_wp2_with (at_builtin; refine push_slG strOk rfl _ _ rfl (lay w []) _ _ [ariesS] A T.length c T (lay_belowG (A := [_, _]) (B := [])) (owG_on (A := [_]) (owG_lit strOk [ariesS] (str_flat1 _) (by decide) aries_wf)) HS.out HA.out rfl rfl (by have := HT1.out; simp only [List.length_cons, List.length_nil]; omega) ?_; intro v2 d2 hv2)
    obtain ⟨Q0, hQ0⟩ : ∃ Q0, Q0 = [ariesS] ++ T := ⟨_, rfl⟩
    have HQ0 := Lib.hid hQ0
    rw [← hQ0] at hv2
    have H2 := Lib.hid hv2
    obtain ⟨va, vc, rfl⟩ := hv2.form
    clear hv2 hQ0
    generalize Q0.length = n0 at *
    go_wp2_with fail
    refine wp_loop_rounds 1 ?_
    rw [rounds_succ]
    go_wp2_with fail
    go_ret
    refine ⟨_, d2, rfl, rfl, ?_⟩
    have h := H2.out
    rw [HQ0.out, ← List.append_nil ([ariesS] ++ T)] at h
    exact h
  · obtain ⟨bs, os, cs, rfl, hcs, hbs, hr⟩ := hv.open (List.length_pos_iff.2 hz)
    obtain ⟨m, hm⟩ : ∃ m, l.length = m := ⟨_, rfl⟩
    have HM := Lib.hid hm
    have HR : Hid (∀ i x, l[i]? = some x → w.cell? ⟨bs, os + i * 4, none⟩ = some (.string x.s) ∧ w.cell? ⟨bs, os + i * 4 + 1, none⟩ = some (.int .i64 x.sha) ∧ w.cell? ⟨bs, os + i * 4 + 2, none⟩ = some (.int .i64 x.dec) ∧ w.cell? ⟨bs, os + i * 4 + 3, none⟩ = some (.int .i64 x.mag)) :=
      Lib.hid (fun i x hx => ⟨hr i x hx 0 _ rfl, hr i x hx 1 _ rfl, hr i x hx 2 _ rfl, hr i x hx 3 _ rfl⟩)
    have HW := Lib.hid hv.wf
    rw [hm] at hcs k3 HL
    clear hv hr hz hm HV
    refine lay_start ?_
    go_enter Tryz.func33, Tryz.ntmps33
    go_wp2_with fail
    refine (HT.out _).mono ?_
    rintro e w' ⟨A, c, d1, rfl, rfl, hA, hS⟩
    rw [lay_bw] at hS ⊢
    have HS := Lib.hid hS
    have HA := Lib.hid hA
    clear hS hA
    go_wp2_with (at_builtin; refine push_slG strOk rfl _ _ rfl (lay w []) _ _ [ariesS] A T.length c T (lay_belowG (A := [_, _]) (B := [])) (owG_on (A := [_]) (owG_lit strOk [ariesS] (str_flat1 _) (by decide) aries_wf)) HS.out HA.out rfl rfl (by have := HT1.out; simp only [List.length_cons, List.length_nil]; omega) ?_; intro v2 d2 hv2)
    obtain ⟨Q0, hQ0⟩ : ∃ Q0, Q0 = [ariesS] ++ T := ⟨_, rfl⟩
    have HQ0 := Lib.hid hQ0
    rw [← hQ0] at hv2
    have H2 := Lib.hid hv2
    obtain ⟨va, vc, rfl⟩ := hv2.form
    clear hv2 hQ0
    generalize Q0.length = n0 at *
    go_wp2_with fail
    go_loopw [3, 17] (fun v3 v17 wr => ∃ (i : Nat) (d : Ext), i ≤ m ∧ v17 = .int .i64 (i : Int) ∧ wr = lay w [.inr d] ∧ OwG strR (lay w [.inr d]) w.heap.size v3 (Q0 ++ (l.take i).map StarV.s)) (fun _ v17 _ => m - (intOf v17).toNat)
    case atStart => exact ⟨0, d2, Nat.zero_le _, rfl, rfl, by have h := H2.out; rw [← List.append_nil Q0] at h; exact h⟩
    case round =>
      obtain ⟨i, d, hi, rfl, rfl, hO⟩ := hrel
      have HO := Lib.hid hO
      clear hO
      by_cases hlt : i < m
      · obtain ⟨x, hx⟩ : ∃ x, l[i]? = some x := ⟨_, List.getElem?_eq_getElem (by rw [HM.out]; exact hlt)⟩
        obtain ⟨e0, e1, e2, e3⟩ := HR.out i x hx
        have HX := Lib.hid hx
        have x1 : (i : Int) < (m : Int) := by omega
        have x0 : (0 : Int) ≤ (i : Int) := by omega
        have HWx := Lib.hid (HW.out x (List.mem_of_getElem? hx)).1
        have HLn : Hid ((Q0 ++ (l.take i).map StarV.s).length ≤ 1000000000) := Lib.hid (by have h1 := HT1.out; have h2 := HL.out; rw [HQ0.out]; simp only [List.length_append, List.length_map, List.length_take, List.length_cons, List.length_nil]; omega)
        have HN : Hid (Q0 ++ (l.take i).map StarV.s ++ [x.s] = Q0 ++ (l.take (i + 1)).map StarV.s) := Lib.hid (by rw [List.take_add_one, hx]; simp)
        clear hx
        generalize hQ : Q0 ++ (l.take i).map StarV.s = Q at *
        clear hQ
        obtain ⟨xs, xa, xb, xc⟩ := x
        dsimp only at e0 e1 e2 e3 HWx HN
        go_wp2_with (at_builtin; refine push_rec strOk rfl _ _ rfl (lay w []) _ xs #[.string xs] 9 (posn w [1, d.n]) _ Q (lay_belowG (A := [_, _, _]) (B := [])) (owG_on (A := [_, _]) HO.out) (lay_get w _ 0 _ rfl) rfl rfl rfl HLn.out HWx.out ?_; intro v3 d3 hv3)
        have H3 := Lib.hid hv3
        clear hv3
        go_wp2_with fail
        go_roundw
        case rel =>
          exact ⟨i + 1, d3, by omega, by go_num, rfl, by have h3 := H3.out; rw [HN.out] at h3; exact h3⟩
        case measure => simp [intOf]; omega
      · obtain rfl : i = m := by omega
        have x1 : ¬ (i : Int) < (i : Int) := by omega
        have HN : Hid (l.take i = l) := Lib.hid (by rw [← HM.out]; exact List.take_length)
        rw [HN.out] at HO
        go_wp2_with fail
        go_ret
        exact ⟨_, d, rfl, rfl, by have h := HO.out; rw [HQ0.out] at h; exact h⟩
end Go.Proofs.YtlkphcjlgbimkaaGreat
/- The library's slice functions at strings. -/
namespace Go.Proofs.YtlkphcjlgbimkaaGreat
open Go.RowKit Go.Sort

theorem bw_drewN' (w : World) (q : Nat) : ∃ d, w.drewN q = bw w d := ⟨⟨#[], w.drawn + q⟩, by
  show w.drewN q = { w with heap := w.heap ++ #[], drawn := w.drawn + q }
  rw [Array.append_empty]; rfl⟩
theorem str_cells {w : World} {b o n c : Nat} {l : List ByteArray} (h : SlG strR w (.slice (some ⟨b, o, none⟩) n c) l) : ∀ j, j < l.length → w.cell? ⟨b, o + j, none⟩ = some (.string (l.getD j ByteArray.empty)) := fun j hj => by
  have hx : l[j]? = some (l.getD j ByteArray.empty) := by simp [List.getD, hj]
  have := slG_get h hx (j := 0) (u := .string (l.getD j ByteArray.empty)) rfl
  simpa [strR] using this
theorem str_Equal (v1 v2 : Value) (l1 l2 : List ByteArray) (w : World) (h1 : SlG strR w v1 l1) (h2 : SlG strR w v2 l2) :
    Calls Tryz.prog 32 #[v1, v2] w fun e w' => e = .returned (.bool (decide (l1 = l2))) ∧ ∃ d, w' = bw w d := by
  have hn : ∃ d, w = bw w d := lay_ex w []
  by_cases hl : l1 = []
  · subst hl
    obtain ⟨a, cap, rfl, -⟩ := h1
    obtain ⟨a2, cap2, rfl, hc2, -⟩ := h2
    refine (Tryz.slices_Equal_string_empty a a2 cap l2.length cap2 w (by omega)).mono fun e w' ⟨h1, h2⟩ => ⟨?_, by rw [h2]; exact hn⟩
    rw [h1]
    refine ret_bool ?_
    rw [Bool.eq_iff_iff]; simp only [decide_eq_true_eq]
    constructor
    · intro h; exact (List.eq_nil_of_length_eq_zero h).symm
    · intro h; rw [← h]; rfl
  · by_cases hlen : l1.length = l2.length
    · have h0 : 0 < l1.length := List.length_pos_iff.2 hl
      obtain ⟨b, o, cap, rfl, hc, _, _⟩ := h1.open h0
      obtain ⟨b2, o2, cap2, rfl, hc2, _, _⟩ := h2.open (by omega)
      have := Tryz.slices_Equal_string b o l1.length cap b2 o2 l2.length cap2 l1 l2 w (Nat.le_refl _) (Nat.le_refl _) (by omega) (by omega) (str_cells h1) (str_cells h2)
      rw [List.take_length, List.take_length] at this
      exact this.mono fun e w' ⟨h1, q, h2⟩ => ⟨h1, by rw [h2]; exact bw_drewN' w q⟩
    · obtain ⟨a, cap, rfl, hc, -⟩ := h1
      obtain ⟨a2, cap2, rfl, hc2, -⟩ := h2
      refine (Tryz.slices_Equal_string_lens a a2 l1.length cap l2.length cap2 w hlen).mono fun e w' ⟨h1, h2⟩ => ⟨?_, by rw [h2]; exact hn⟩
      rw [h1]
      exact ret_bool (by rw [Bool.eq_iff_iff]; simp; intro h; exact absurd (by rw [h]) hlen)
theorem str_Contains (v : Value) (l : List ByteArray) (x : ByteArray) (w : World) (h : SlG strR w v l) :
    Calls Tryz.prog 63 #[v, .string x] w fun e w' => e = .returned (.bool (Lib.containsS l x)) ∧ w' = w := by
  by_cases hl : l = []
  · subst hl
    obtain ⟨a, cap, rfl, -⟩ := h
    exact (Tryz.slices_Contains_string_empty a cap x w).mono fun e w' ⟨h1, h2⟩ => ⟨h1, h2⟩
  · obtain ⟨b, o, cap, rfl, hc, _, _⟩ := h.open (List.length_pos_iff.2 hl)
    have := Tryz.slices_Contains_string b o l.length cap l x w (Nat.le_refl _) (by omega) (str_cells h)
    rw [List.take_length] at this
    exact this
end Go.Proofs.YtlkphcjlgbimkaaGreat
