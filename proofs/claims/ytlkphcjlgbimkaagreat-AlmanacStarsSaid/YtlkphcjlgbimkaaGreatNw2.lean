/- Without pages: the reference's New, the law's made, large. -/
import Derived.Test.YtlkphcjlgbimkaaGreatProg
import Derived.Test.YtlkphcjlgbimkaaGreatLay
import Derived.Test.YtlkphcjlgbimkaaGreatRegion
import Derived.Test.YtlkphcjlgbimkaaGreatMix
import Derived.WalkKit
import Derived.WalkSpells
import Derived.WalkLawsBesides
import Derived.Lib.Hide
import Derived.BigQuiet
import Derived.Test.YtlkphcjlgbimkaaGreatNw1
namespace Go.Proofs.YtlkphcjlgbimkaaGreat
open Go.RowKit Go.Shelf

set_option maxHeartbeats 1000000 in
theorem ref17_Tracked_nil (vs : Value) (l : List StarV) (w : World) (hv : SlG stR w vs l) :
    Calls Tryz.prog 94 #[.agg #[.slice none 0 0, vs]] w fun e w' => e = .returned (.slice none 0 0) ∧ ∃ d, w' = bw w d := by
  obtain ⟨a, c, rfl⟩ := hv.form
  generalize l.length = m
  clear hv
  refine lay_start ?_
  go_enter Tryz.func94, Tryz.ntmps94
  go_wp2_with fail
  refine wp_loop_rounds 1 ?_
  rw [rounds_succ]
  go_wp2
  go_ret
  exact ⟨rfl, lay_ex _ _⟩
theorem find_aries (l : List StarV) : decide (0 ≤ fndS l ariesS) = l.any (fun x => isA x.s) := by
  unfold fndS
  rw [idxR_any]
  congr 1
  funext x
  unfold nmB isA
  rw [aries_list]
/-- The error number of a book without pages. -/
noncomputable def newE0 (l : List StarV) : Int := if catB l = false then 1 else if l.any (fun x => isA x.s) = true then 10 else 0
set_option maxHeartbeats 1000000 in
theorem ref17_New_nil (v : Value) (l : List StarV) (w : World) (hv : SlG stR w v l) :
    Calls Tryz.prog 59 #[.slice none 0 0, v] w fun e w' => e = .returned (.int .i64 (newE0 l)) ∧ ∃ d, w' = bw w d := by
  have HC := Lib.hid (fun L => ref16_Valid v l (lay w L) (hv.lay L))
  have HF := Lib.hid (fun L => ref16_Find v l ariesS (lay w L) (hv.lay L))
  have HT := Lib.hid (fun L => ref17_Tracked_nil v l (lay w L) (hv.lay L))
  have hA := find_aries l
  have hE : newE0 l = if catB l = false then 1 else if l.any (fun x => isA x.s) = true then 10 else 0 := rfl
  rw [hE]
  unfold IdxPost at HF
  generalize l.any (fun x => isA x.s) = y at *
  generalize fndS l ariesS = i at *
  generalize catB l = c at *
  obtain ⟨sa, sc, rfl⟩ := hv.form
  generalize l.length = m at *
  clear hv hE
  cases c
  · rw [if_pos rfl]
    refine lay_start ?_
    go_enter Tryz.func59, Tryz.ntmps59
    go_wp2_with fail
    refine wp_loop_rounds 1 ?_
    rw [rounds_succ]
    go_wp2_with (go_at_call 28; refine (HC.out _).mono ?_; rintro e w' ⟨rfl, d, rfl⟩)
    go_ret
    exact ⟨rfl, lay_ex _ _⟩
  · rw [if_neg (by decide)]
    cases y
    · rw [if_neg (by decide)]
      refine lay_start ?_
      go_enter Tryz.func59, Tryz.ntmps59
      go_wp2_with fail
      refine wp_loop_rounds 1 ?_
      rw [rounds_succ]
      go_wp2_with (go_at_call 28; refine (HC.out _).mono ?_; rintro e w' ⟨rfl, d, rfl⟩)
      refine wp_loop_rounds 1 ?_
      rw [rounds_succ]
      go_wp2_with (go_at_call 94; refine (HT.out _).mono ?_; rintro e w' ⟨rfl, d, rfl⟩)
      refine wp_loop_rounds 1 ?_
      rw [rounds_succ]
      go_wp2_with (go_at_call 70; refine (HF.out _).mono ?_; rintro e w' ⟨rfl, d, rfl⟩)
      go_ret
      exact ⟨rfl, lay_ex _ _⟩
    · rw [if_pos rfl]
      refine lay_start ?_
      go_enter Tryz.func59, Tryz.ntmps59
      go_wp2_with fail
      refine wp_loop_rounds 1 ?_
      rw [rounds_succ]
      go_wp2_with (go_at_call 28; refine (HC.out _).mono ?_; rintro e w' ⟨rfl, d, rfl⟩)
      refine wp_loop_rounds 1 ?_
      rw [rounds_succ]
      go_wp2_with (go_at_call 94; refine (HT.out _).mono ?_; rintro e w' ⟨rfl, d, rfl⟩)
      refine wp_loop_rounds 1 ?_
      rw [rounds_succ]
      go_wp2_with (go_at_call 70; refine (HF.out _).mono ?_; rintro e w' ⟨rfl, d, rfl⟩)
      go_ret
      exact ⟨rfl, lay_ex _ _⟩
set_option maxHeartbeats 1000000 in
theorem law17_made_bad (v : Value) (l : List StarV) (w : World) (hv : SlG stR w v l) (h : catB l = true) (hA : l.any (fun x => isA x.s) = true) :
    Calls Tryz.prog 13 #[.slice none 0 0, v] w fun e w' => e = .returned (.tuple #[.pointer none, .bool true]) ∧ ∃ d, w' = bw w d := by
  have HN := Lib.hid (fun L => alm_New_nil2 v l (lay w L) (hv.lay L) h hA)
  have HR := Lib.hid (fun L => ref17_New_nil v l (lay w L) (hv.lay L))
  have hE : newE0 l = 10 := by unfold newE0; rw [h, hA]; rfl
  rw [hE] at HR
  clear h hA hv hE
  refine lay_start ?_
  go_enter Tryz.func13, Tryz.ntmps13
  go_wp2_with (first | (go_at_call 49; refine (HN.out _).mono ?_; rintro e w' ⟨rfl, d, rfl⟩) | (go_at_call 59; refine (HR.out _).mono ?_; rintro e w' ⟨rfl, d, rfl⟩))
  all_goals exact bodyPost_ret (v := .tuple #[.pointer none, .bool true]) (by simp [results, Tryz.results13, go_sem]) rfl ⟨rfl, lay_ex _ _⟩
def MadePost0 (w : World) (l : List StarV) (e : Ending) (w' : World) : Prop :=
  ∃ bk vs d, e = .returned (.tuple #[.pointer (some ⟨bk, 0, none⟩), .bool true]) ∧ w' = bw w d ∧ Bk (bw w d) bk (.slice none 0 0) (.slice none 0 0) vs ∧ SlG stR (bw w d) vs l
set_option maxHeartbeats 1000000 in
theorem law17_made_ok (v : Value) (l : List StarV) (w : World) (hv : SlG stR w v l) (h : catB l = true) (hA : l.any (fun x => isA x.s) = false) :
    Calls Tryz.prog 13 #[.slice none 0 0, v] w (MadePost0 w l) := by
  have HN := Lib.hid (fun L => alm_New_nil3 v l (lay w L) (hv.lay L) h hA)
  have HR := Lib.hid (fun L => ref17_New_nil v l (lay w L) (hv.lay L))
  have hE : newE0 l = 0 := by unfold newE0; rw [h, hA]; rfl
  rw [hE] at HR
  clear h hA hv hE
  unfold MadePost0
  refine lay_start ?_
  go_enter Tryz.func13, Tryz.ntmps13
  go_wp2_with fail
  refine (HN.out _).mono ?_
  rintro e w' ⟨bk, vs, d, rfl, rfl, hB, hS⟩
  rw [lay_bw] at hB hS ⊢
  have HB := Lib.hid hB
  have HS := Lib.hid hS
  clear hB hS
  go_wp2_with (first | (go_at_call 59; refine (HR.out _).mono ?_; rintro e w' ⟨rfl, d2, rfl⟩))
  obtain ⟨z, hz⟩ := lay_ex w [.inr d2, .inr d]
  exact bodyPost_ret (v := .tuple #[.pointer (some ⟨bk, 0, none⟩), .bool true]) (by simp [results, Tryz.results13, go_sem]) rfl ⟨_, _, z, rfl, hz, hz ▸ HB.out.lay [.inr d2], hz ▸ HS.out.lay [.inr d2]⟩
set_option maxHeartbeats 1000000 in
theorem law17_large2 (x : StarV) (w : World) :
    Calls Tryz.prog 58 #[.agg #[.string x.s, .int .i64 x.sha, .int .i64 x.dec, .int .i64 x.mag]] w fun e w' => e = .returned (.bool (decide ((100 : Int) < (x.s.size : Int)))) ∧ ∃ d, w' = bw w d := by
  obtain ⟨xs, x1, x2, x3⟩ := x
  dsimp only
  refine lay_start ?_
  go_enter Tryz.func58, Tryz.ntmps58
  go_wp2
  go_ret
  exact ⟨rfl, lay_ex _ _⟩
def AnyB (w : World) (e : Ending) (w' : World) : Prop := ∃ r, e = .returned (.bool r) ∧ ∃ d, w' = bw w d
set_option maxHeartbeats 1000000 in
theorem law17_large_nil (v : Value) (l : List StarV) (w : World) (hv : SlG stR w v l) :
    Calls Tryz.prog 12 #[.slice none 0 0, v] w (AnyB w) := by
  have eI : ∀ args w, (callFunc 58 args).run Tryz.prog w = .ok (.enter 58 args) w := enters_of Tryz.func58 (by kernel_rfl) rfl
  have HI := Lib.hid (fun L => st_ContainsFunc 58 [] (fun x => decide ((100 : Int) < (x.s.size : Int))) v l (lay w L) (hv.lay L) eI (fun x _ d => (law17_large2 x (bw (lay w L) d)).mono fun e w' ⟨h1, d2, h2⟩ => ⟨h1, _, h2.trans (bw_bw _ _ _)⟩))
  generalize l.any (fun x => decide ((100 : Int) < (x.s.size : Int))) = y at *
  obtain ⟨a, c, rfl⟩ := hv.form
  generalize l.length = m at *
  clear hv eI
  refine lay_start ?_
  go_enter Tryz.func12, Tryz.ntmps12
  go_wp2_with (first | (go_at_call 53; refine (pgs_ContainsFunc_nil _ _ _ _).mono ?_; rintro e w' ⟨rfl, d, rfl⟩) | (go_at_call 57; refine (HI.out _).mono ?_; rintro e w' ⟨rfl, d, rfl⟩))
  all_goals go_ret
  all_goals exact ⟨_, rfl, lay_ex _ _⟩
end Go.Proofs.YtlkphcjlgbimkaaGreat
