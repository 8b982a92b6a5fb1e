/- The reference of layer 14: Margin, Gha, Dec. -/
import Derived.Test.YtknammeehedbdaaProg
import Derived.Test.YtknammeehedbdaaLay
import Derived.Test.YtknammeehedbdaaRegion
import Derived.Test.YtknammeehedbdaaMix
import Derived.WalkKit
import Derived.WalkSpells
import Derived.WalkLawsBesides
import Derived.Lib.Hide
import Derived.BigQuiet
import Derived.Deep.RegionWith
import Derived.Test.YtknammeehedbdaaPlain
import Derived.Test.YtknammeehedbdaaAngle
import Derived.Test.YtknammeehedbdaaInc1
import Derived.Test.YtknammeehedbdaaTrk
import Derived.Test.YtknammeehedbdaaMixP
import Derived.Test.YtknammeehedbdaaRf4
import Derived.Test.YtknammeehedbdaaRf5
import Derived.Test.YtknammeehedbdaaRf9
namespace Go.Proofs.Ytknammeehedbdaa
open Go.RowKit

theorem Row.cons {w : World} {g : Nat} {f : Nat → Int} {L : List (Obj ⊕ Ext)} (h : Row (Go.Proofs.Ytknammeehedbdaa.lay w L) g f) (d : Ext) : Row (Go.Proofs.Ytknammeehedbdaa.lay w (.inr d :: L)) g f := h.lay [.inr d]
theorem row_of {w : World} {base g cap : Nat} {e : TypeId} {xs : List Value} {f : Nat → Int} (h : w.ownsRow base e 1 (.slice (some ⟨g, 0, none⟩) 25 cap) 25 xs) (hx : ∀ k, k < 25 → xs[k]? = some (.int .i64 (f k)))
    (hb : ∀ i, i ≤ 24 → -1000000000000 ≤ f i ∧ f i ≤ 1000000000000) : Row w g f :=
  ⟨(h.lt g rfl).2, fun k hk => (h.cellAt k (by omega)).trans (hx k hk), hb⟩
set_option maxHeartbeats 400000 in
theorem ref14_Margin (v : Value) (t : TrkV) (w : World) (hv : Trk w v t) (hg : GD t) :
    Calls Try.prog 48 #[v] w fun e w' => e = .returned (.int .i64 (cdiv (100 * t.r) 8)) ∧ ∃ d, w' = bw w d := by
  obtain ⟨vg, vd, hvv, -⟩ := id hv
  subst hvv
  have r0 := hg.r0
  have r1 := hg.r1
  clear hv hg
  refine lay_start ?_
  go_enter Try.func48, Try.ntmps48
  go_wp2_with (go_at_call 37; refine (ref05_Ceil _ _ _ (by omega) (by omega) (by omega)).mono ?_; rintro e w' ⟨rfl, rfl⟩)
  go_ret
  exact ⟨rfl, lay_ex _ _⟩
set_option maxHeartbeats 400000 in
theorem ref13_Latitude (x y : Int) (w : World) :
    Calls Try.prog 49 #[(.agg #[.int .i64 (x), .int .i64 (y)])] w fun e w' => e = .returned (.agg #[.int .i64 (mx x (-5400000)), .int .i64 (mn y 5400000)]) ∧ ∃ d, w' = bw w d := by
  refine lay_start ?_
  go_enter Try.func49, Try.ntmps49
  go_wp2_with (go_at_call 66; refine (ref05_Meet _ _ _ _ _).mono ?_; rintro e w' ⟨rfl, d, rfl⟩)
  exact bodyPost_ret (v := (.agg #[.int .i64 (mx x (-5400000)), .int .i64 (mn y 5400000)])) (by simp [results, Try.results49, go_sem]) rfl ⟨rfl, lay_ex _ _⟩
theorem turn_cond {x y : Int} (h : validB x y = true) : -4611686018427387904 ≤ x ∧ x ≤ y ∧ y ≤ 4611686018427387903 := by
  have := validB_iff.1 h; omega

set_option maxHeartbeats 4000000 in
theorem ref14_Gha (v : Value) (t : TrkV) (lo hi : Int) (w : World) (hv : Trk w v t) (hg : GD t) (l0 : 0 ≤ lo) (l1 : lo ≤ 86400000) (h0 : 0 ≤ hi) (h1 : hi ≤ 86400000) :
    Calls Try.prog 27 #[v, .int .i64 lo, .int .i64 hi] w fun e w' => e = .returned (.agg #[.int .i64 (turnLo (ghaO t lo hi).1 (ghaO t lo hi).2), .int .i64 (turnHi (ghaO t lo hi).1 (ghaO t lo hi).2)]) ∧ ∃ d, w' = bw w d := by
  obtain ⟨vg, vd, hvv, -⟩ := id hv
  subst hvv
  have HV := Lib.hid (fun L => hv.lay L)
  have HG := Lib.hid hg
  have HM := Lib.hid (fun L => ref14_Margin _ t (lay w L) (hv.lay L) hg)
  have HVD := Lib.hid (ghaO_valid hg lo hi)
  refine lay_start ?_
  go_enter Try.func27, Try.ntmps27
  go_wp2_with fail
  refine region_mixP [(0, 0), (2, 0), (3, 0), (4, 0), (1, 1), (5, 0)] (by kernel_rfl) (by kernel_rfl) (by kernel_rfl) (by kernel_rfl) (by decide) (by kernel_rfl) ?_
  simp only [List.drop_succ_cons, List.drop_zero, List.length_cons, List.length_nil, Nat.reduceAdd]
  iterate 4 (refine wpMP_quiet rfl (fun K hK => ?_); go_simp; refine hK _ ?_; clear hK K)
  refine wpMP_special rfl (fun K hK d0 => ?_)
  go_simp
  refine (ref14_Unwrapped _ t _ (HV.out _) (by rw [HG.out.lg]; decide) (by rw [HG.out.lg]; decide) HG.out.bg).mono ?_
  rintro e w' ⟨v', da, rfl, rfl, hown⟩
  rw [HG.out.lg] at hown
  obtain ⟨g, cp, rfl⟩ := row_form hown (by decide)
  have hR : Row (lay w [.inr da, .inr d0, .inl (.cells #[.int .i64 0, .int .i64 0] 23 (0, 0)), .inl (.cells #[.string t.s, vg, vd, .int .i64 t.p, .int .i64 t.q, .int .i64 t.r] 43 (0, 0))]) g (ang t.g) := row_of hown (fun k hk => angs_get _ _ _ hk) (ang_ok HG.out)
  clear hown
  refine ⟨_, rfl, ?_⟩
  go_simp
  refine hK _ _ (lay_in w [_, _] _) ?_
  clear hK K
  refine wpMP_quiet rfl (fun K hK => ?_)
  go_simp
  apply Exists.intro
  refine ⟨fun _ => ?_, hK _ ?_⟩
  · exact bq (HM.out _) (fun d => ⟨d, rfl⟩)
  clear hK K
  refine wpMP_nil ?_
  intro d1
  rw [lay_bw]
  have HO := Lib.hid (fun x => ref14_Over (ang t.g) g cp lo hi t.r _ (hR.cons x) l0 l1 h0 h1 HG.out.r0 HG.out.r1)
  rw [show ovr (arcA (ang t.g)) lo hi t.r = ghaO t lo hi from rfl] at HO
  obtain ⟨O, hO⟩ : ∃ O, ghaO t lo hi = O := ⟨_, rfl⟩
  rw [hO] at HVD HO
  clear hR
  go_wp2_with (first | (go_at_call 46; refine (HO.out _).mono ?_; rintro e w' ⟨rfl, d, rfl⟩) | (go_at_call 45; refine (ref05_Turn _ _ _ (turn_cond HVD.out).1 (turn_cond HVD.out).2.1 (turn_cond HVD.out).2.2).mono ?_; rintro e w' ⟨rfl, d, rfl⟩))
  exact bodyPost_ret (v := (.agg #[.int .i64 (turnLo O.1 O.2), .int .i64 (turnHi O.1 O.2)])) (by simp [results, Try.results27, go_sem]) rfl ⟨by rw [hO], lay_ex _ _⟩

set_option maxHeartbeats 4000000 in
theorem ref14_Dec (v : Value) (t : TrkV) (lo hi : Int) (w : World) (hv : Trk w v t) (hg : GD t) (l0 : 0 ≤ lo) (l1 : lo ≤ 86400000) (h0 : 0 ≤ hi) (h1 : hi ≤ 86400000) :
    Calls Try.prog 28 #[v, .int .i64 lo, .int .i64 hi] w fun e w' => e = .returned (.agg #[.int .i64 (mx (decO t lo hi).1 (-5400000)), .int .i64 (mn (decO t lo hi).2 5400000)]) ∧ ∃ d, w' = bw w d := by
  obtain ⟨vg, vd, hvv, -⟩ := id hv
  subst hvv
  have HV := Lib.hid (fun L => hv.lay L)
  have HG := Lib.hid hg
  have HM := Lib.hid (fun L => ref14_Margin _ t (lay w L) (hv.lay L) hg)
  refine lay_start ?_
  go_enter Try.func28, Try.ntmps28
  go_wp2_with fail
  refine region_mixP [(0, 0), (2, 0), (3, 0), (4, 0), (1, 1), (5, 0)] (by kernel_rfl) (by kernel_rfl) (by kernel_rfl) (by kernel_rfl) (by decide) (by kernel_rfl) ?_
  simp only [List.drop_succ_cons, List.drop_zero, List.length_cons, List.length_nil, Nat.reduceAdd]
  iterate 4 (refine wpMP_quiet rfl (fun K hK => ?_); go_simp; refine hK _ ?_; clear hK K)
  refine wpMP_special rfl (fun K hK d0 => ?_)
  go_simp
  refine (ref14_Declinations _ t _ (HV.out _) (by rw [HG.out.ld]; decide) (by rw [HG.out.ld]; decide) HG.out.bd).mono ?_
  rintro e w' ⟨v', da, rfl, rfl, hown⟩
  rw [HG.out.ld] at hown
  obtain ⟨g, cp, rfl⟩ := row_form hown (by decide)
  have hR : Row (lay w [.inr da, .inr d0, .inl (.cells #[.int .i64 0, .int .i64 0] 23 (0, 0)), .inl (.cells #[.string t.s, vg, vd, .int .i64 t.p, .int .i64 t.q, .int .i64 t.r] 43 (0, 0))]) g (dcl t.d) := row_of hown (fun k hk => by simp [dec100, dcl, hk]) (dcl_ok HG.out)
  clear hown
  refine ⟨_, rfl, ?_⟩
  go_simp
  refine hK _ _ (lay_in w [_, _] _) ?_
  clear hK K
  refine wpMP_quiet rfl (fun K hK => ?_)
  go_simp
  apply Exists.intro
  refine ⟨fun _ => ?_, hK _ ?_⟩
  · exact bq (HM.out _) (fun d => ⟨d, rfl⟩)
  clear hK K
  refine wpMP_nil ?_
  intro d1
  rw [lay_bw]
  have HO := Lib.hid (fun x => ref14_Over (dcl t.d) g cp lo hi t.r _ (hR.cons x) l0 l1 h0 h1 HG.out.r0 HG.out.r1)
  rw [show ovr (arcA (dcl t.d)) lo hi t.r = decO t lo hi from rfl] at HO
  obtain ⟨O, hO⟩ : ∃ O, decO t lo hi = O := ⟨_, rfl⟩
  rw [hO] at HO
  clear hR
  go_wp2_with (first | (go_at_call 46; refine (HO.out _).mono ?_; rintro e w' ⟨rfl, d, rfl⟩) | (go_at_call 49; refine (ref13_Latitude _ _ _).mono ?_; rintro e w' ⟨rfl, d, rfl⟩))
  exact bodyPost_ret (v := (.agg #[.int .i64 (mx O.1 (-5400000)), .int .i64 (mn O.2 5400000)])) (by simp [results, Try.results28, go_sem]) rfl ⟨by rw [hO], lay_ex _ _⟩
end Go.Proofs.Ytknammeehedbdaa
