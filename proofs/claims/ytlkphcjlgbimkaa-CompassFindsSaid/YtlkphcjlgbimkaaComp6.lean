/- compass.Deviation, ErrorBy (at what awake wants), the law's helpers. -/
import Derived.Test.YtlkphcjlgbimkaaProg
import Derived.Test.YtlkphcjlgbimkaaLay
import Derived.Test.YtlkphcjlgbimkaaRegion
import Derived.Test.YtlkphcjlgbimkaaMix
import Derived.WalkKit
import Derived.WalkSpells
import Derived.WalkLawsBesides
import Derived.Lib.Hide
import Derived.BigQuiet
import Derived.BigRegion
import Derived.Test.YtlkphcjlgbimkaaPlain
import Derived.Test.YtlkphcjlgbimkaaAngle
import Derived.Test.YtlkphcjlgbimkaaCompPlain
import Derived.Test.YtlkphcjlgbimkaaTabs
import Derived.Test.YtlkphcjlgbimkaaComp1
import Derived.Test.YtlkphcjlgbimkaaComp3
import Derived.Test.YtlkphcjlgbimkaaComp4
import Derived.Test.YtlkphcjlgbimkaaComp5
import Derived.Test.YtlkphcjlgbimkaaCompPlain2
namespace Go.Proofs.Ytlkphcjlgbimkaa
open Go.RowKit

set_option maxHeartbeats 1000000 in
theorem comp_Deviation_bad (v : Value) (l : Tl) (x0 y0 : Int) (w : World) (hv : Tabs w v l) (h : (vB l && validB x0 y0) = false) :
    Calls Try.prog 16 #[v, (.agg #[.int .i64 (x0), .int .i64 (y0)])] w fun e w' => e = .returned (.tuple #[(.agg #[.int .i64 (0), .int .i64 (0)]), .int .i64 1]) ∧ ∃ d, w' = bw w d := by
  have HV := Lib.hid hv
  clear hv
  cases h1 : vB l
  · clear h
    refine lay_start ?_
    go_enter Try.func16, Try.ntmps16
    go_wp2_with (go_at_call 9; refine (comp_Valid _ l _ (tabs_lay HV.out _)).mono ?_; rintro e w' ⟨rfl, d, rfl⟩)
    exact bodyPost_ret (v := .tuple #[(.agg #[.int .i64 (0), .int .i64 (0)]), .int .i64 1]) (by simp [results, Try.results16, go_sem]) rfl ⟨rfl, lay_ex _ _⟩
  · have h2 : validB x0 y0 = false := by simpa [h1] using h
    clear h
    refine lay_start ?_
    go_enter Try.func16, Try.ntmps16
    go_wp2_with (first | (go_at_call 9; refine (comp_Valid _ l _ (tabs_lay HV.out _)).mono ?_; rintro e w' ⟨rfl, d, rfl⟩) | (go_at_call 27; refine (angle_Valid _ _ _).mono ?_; rintro e w' ⟨rfl, d, rfl⟩))
    exact bodyPost_ret (v := .tuple #[(.agg #[.int .i64 (0), .int .i64 (0)]), .int .i64 1]) (by simp [results, Try.results16, go_sem]) rfl ⟨rfl, lay_ex _ _⟩
theorem comp_overT (v : Value) (l : Tl) (x0 y0 : Int) (w : World) (hv : Tabs w v l) (T : Tab l) (hV : validB x0 y0 = true) :
    Calls Try.prog 30 #[v, (.agg #[.int .i64 (x0), .int .i64 (y0)])] w fun e w' => e = .returned (.tuple #[(.agg #[.int .i64 (oL l x0 y0), .int .i64 (oH l x0 y0)]), .int .i64 0]) ∧ ∃ d, w' = bw w d :=
  comp_over v l x0 y0 w hv T hV
set_option maxHeartbeats 1000000 in
theorem comp_Deviation_ok (v : Value) (l : Tl) (x0 y0 : Int) (w : World) (hv : Tabs w v l) (h1 : vB l = true) (h2 : validB x0 y0 = true) :
    Calls Try.prog 16 #[v, (.agg #[.int .i64 (x0), .int .i64 (y0)])] w fun e w' => e = .returned (.tuple #[(.agg #[.int .i64 (oL l x0 y0), .int .i64 (oH l x0 y0)]), .int .i64 0]) ∧ ∃ d, w' = bw w d := by
  have HV := Lib.hid hv
  clear hv
  refine lay_start ?_
  go_enter Try.func16, Try.ntmps16
  go_wp2_with (first | (go_at_call 9; refine (comp_Valid _ l _ (tabs_lay HV.out _)).mono ?_; rintro e w' ⟨rfl, d, rfl⟩) | (go_at_call 27; refine (angle_Valid _ _ _).mono ?_; rintro e w' ⟨rfl, d, rfl⟩) | (go_at_call 30; refine (comp_overT _ l _ _ _ (tabs_lay HV.out _) (vB_iff.1 h1) h2).mono ?_; rintro e w' ⟨rfl, d, rfl⟩))
  exact bodyPost_ret (v := .tuple #[(.agg #[.int .i64 (oL l x0 y0), .int .i64 (oH l x0 y0)]), .int .i64 0]) (by simp [results, Try.results16, go_sem]) rfl ⟨rfl, lay_ex _ _⟩
set_option maxHeartbeats 400000 in
theorem law_at (n : Int) (w : World) :
    Calls Try.prog 15 #[.int .i64 n] w fun e w' => e = .returned ((.agg #[.int .i64 (n), .int .i64 (n)])) ∧ ∃ d, w' = bw w d := by
  refine lay_start ?_
  go_enter Try.func15, Try.ntmps15
  go_wp2
  exact bodyPost_ret (v := (.agg #[.int .i64 (n), .int .i64 (n)])) (by simp [results, Try.results15, go_sem]) rfl ⟨rfl, lay_ex _ _⟩
set_option maxHeartbeats 1000000 in
theorem comp_ErrorBy_eg (w : World) :
    Calls Try.prog 13 #[(.agg #[.int .i64 (5), .int .i64 (5)]), (.agg #[.int .i64 (21599999), .int .i64 (21599999)])] w fun e w' => e = .returned (.tuple #[(.agg #[.int .i64 (-6), .int .i64 (-6)]), .int .i64 0]) ∧ ∃ d, w' = bw w d := by
  have v1 : validB 5 5 = true := by decide
  have v2 : validB 21599999 21599999 = true := by decide
  have n1 : (withB 5 274877906944 && withB 5 274877906944) = true := by decide
  have n2 : (withB 21599999 274877906944 && withB 21599999 274877906944) = true := by decide
  refine lay_start ?_
  go_enter Try.func13, Try.ntmps13
  go_wp2_with (first | (go_at_call 27; refine (angle_Valid _ _ _).mono ?_; rintro e w' ⟨rfl, d, rfl⟩) | (go_at_call 28; refine (comp_near _ _ _).mono ?_; rintro e w' ⟨rfl, d, rfl⟩) | (go_at_call 21; refine (angle_Signed _ _).mono ?_; rintro e w' ⟨rfl, rfl⟩))
  refine region_bw (by kernel_rfl) (by kernel_rfl) ?_
  repeat (go_big_quiet_step ((first | fail)))
  refine wpQuiet_nil ?_
  rintro w' ⟨d, rfl⟩
  rw [lay_bw]
  go_wp2_with (go_at_call 21; refine (angle_Signed _ _).mono ?_; rintro e w' ⟨rfl, rfl⟩)
  exact bodyPost_ret (v := .tuple #[(.agg #[.int .i64 (-6), .int .i64 (-6)]), .int .i64 0]) (by simp [results, Try.results13, go_sem, signedI, wrap64]) rfl ⟨rfl, lay_ex _ _⟩
def egT : Tl := [(0, 60000), (5400000, -60000)]
theorem two_of {i : Nat} (h : i < egT.length) : i = 0 ∨ i = 1 := by
  have : i < 2 := h
  omega
theorem eg_valid : vB egT = true := vB_iff.2 (by
  refine tab_of (by decide) (fun i hi => ?_) (fun i hi => ?_)
  · rcases two_of hi with rfl | rfl
    · exact ⟨by decide, by decide, by decide⟩
    · exact ⟨by decide, by decide, by decide⟩
  · rcases two_of hi with rfl | rfl
    · unfold E2; decide
    · unfold E2; decide)
theorem eg_at1 : oL egT 2700000 2700000 = 0 ∧ oH egT 2700000 2700000 = 0 := by decide
theorem eg_at2 : oL egT 1 1 = 59999 ∧ oH egT 1 1 = 60000 := by decide
theorem tabs_cons {w : World} {L : List (Obj ⊕ Ext)} {v : Value} {l : Tl} (h : Tabs (lay w L) v l) (x : Obj ⊕ Ext) : Tabs (lay w (x :: L)) v l := by
  have := tabs_lay h [x]
  cases x <;> exact this
theorem eg_tabs (w : World) (t : TypeId) : Tabs (lay w [.inl (.cells #[.int .i64 0, .int .i64 60000, .int .i64 5400000, .int .i64 (-60000)] t)]) (.slice (some ⟨posn w [], 0, none⟩) 2 2) egT := by
  refine ⟨_, 2, rfl, by decide, fun _ => ⟨posn w [], 0, rfl, ?_, fun i hi => ?_⟩⟩
  · rw [lay_size]; simp [posn, shp]
  · rcases two_of hi with rfl | rfl
    · refine ⟨?_, ?_, by decide, by decide⟩ <;> (rw [lay_cell _ _ _ _ (by simp) rfl rfl]; rfl)
    · refine ⟨?_, ?_, by decide, by decide⟩ <;> (rw [lay_cell _ _ _ _ (by simp) rfl rfl]; rfl)
theorem eg_Dev1 (v : Value) (w : World) (hv : Tabs w v egT) :
    Calls Try.prog 16 #[v, (.agg #[.int .i64 (2700000), .int .i64 (2700000)])] w fun e w' => e = .returned (.tuple #[(.agg #[.int .i64 (0), .int .i64 (0)]), .int .i64 0]) ∧ ∃ d, w' = bw w d := by
  have := comp_Deviation_ok v egT 2700000 2700000 w hv eg_valid (by decide)
  rw [eg_at1.1, eg_at1.2] at this
  exact this
theorem eg_Dev2 (v : Value) (w : World) (hv : Tabs w v egT) :
    Calls Try.prog 16 #[v, (.agg #[.int .i64 (1), .int .i64 (1)])] w fun e w' => e = .returned (.tuple #[(.agg #[.int .i64 (59999), .int .i64 (60000)]), .int .i64 0]) ∧ ∃ d, w' = bw w d := by
  have := comp_Deviation_ok v egT 1 1 w hv eg_valid (by decide)
  rw [eg_at2.1, eg_at2.2] at this
  exact this
set_option maxHeartbeats 4000000 in
theorem law_awake (w : World) :
    Calls Try.prog 5 #[] w fun e w' => e = .returned (.bool true) ∧ ∃ d, w' = bw w d := by
  refine lay_start ?_
  go_enter Try.func5, Try.ntmps5
  go_wp2_with (go_at_call 15; refine (law_at _ _).mono ?_; rintro e w' ⟨rfl, d, rfl⟩)
  refine (eg_Dev1 _ _ (by repeat' (first | exact eg_tabs _ _ | refine tabs_cons ?_ _))).mono ?_
  rintro e w' ⟨rfl, d, rfl⟩
  go_wp2_with (go_at_call 15; refine (law_at _ _).mono ?_; rintro e w' ⟨rfl, d, rfl⟩)
  refine (eg_Dev2 _ _ (by repeat' (first | exact eg_tabs _ _ | refine tabs_cons ?_ _))).mono ?_
  rintro e w' ⟨rfl, d, rfl⟩
  go_wp2_with (first | (go_at_call 15; refine (law_at _ _).mono ?_; rintro e w' ⟨rfl, d, rfl⟩) | (go_at_call 13; refine (comp_ErrorBy_eg _).mono ?_; rintro e w' ⟨rfl, d, rfl⟩))
  refine region_bw (by kernel_rfl) (by kernel_rfl) ?_
  repeat (go_big_quiet_step ((first | (go_at_call 15; exact bq (law_at _ _) (fun d => lay_join _ _ _ d)) | (go_at_call 15; exact bq (law_at _ _) (fun d => ⟨d, rfl⟩)))))
  refine wpQuiet_nil ?_
  rintro w' ⟨d, rfl⟩
  rw [lay_bw]
  go_wp2
  go_ret
  exact ⟨rfl, lay_ex _ _⟩
end Go.Proofs.Ytlkphcjlgbimkaa
