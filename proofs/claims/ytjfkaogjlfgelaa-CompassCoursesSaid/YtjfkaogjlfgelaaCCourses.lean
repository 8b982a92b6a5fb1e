/- CompassCourses: for any table and arcs, True and Compass return the courses that the reference specifies, or the specified errors. No condition. -/
import Derived.Test.YtjfkaogjlfgelaaFrame
import Derived.Test.YtjfkaogjlfgelaaTabs
import Derived.Test.YtjfkaogjlfgelaaComp16
namespace Go.Proofs.Ytjfkaogjlfgelaa
open Go.ChangeShapes Go.WideShapes Go.ChangeAt Go.RowKit Go.Joins

set_option maxRecDepth 100000 in
theorem lifted_CompassCourses (os : Os) (started : os.Started) (H : Type) (enc : TypeId × Value → H) :
    ReturnsInHanded {} Try.checked os 4 .any (Rows.compassCoursesSpec.pre6 enc Try.prog Try.f4 Rows.compassCoursesRow.domain false) (Rows.compassCoursesSpec.post enc Try.prog Try.f4 false true false false) := by
  refine returnsInHanded_of_change (C := Try.checked) ownKnob_none started (by kernel_rfl) Try.func4
    (ChangeSpec.witness6 (enc := enc) (C := Try.checked) false ⟨#[], #[.slice none 0 0, .agg #[.int .i64 0, .int .i64 0], .agg #[.int .i64 0, .int .i64 0]], []⟩ 8 (by kernel_rfl) (by kernel_rfl) (by kernel_rfl) (by kernel_rfl)) ?_
  intro W base args ds gs before hval0 hW hcnd _
  have hval : ∀ (j : Nat) t v, Try.f4.params[j]? = some t → args[j]? = some v → Value.okWide Try.prog W .any base t v := hval0
  have hW' := hW
  obtain ⟨p, q, hA0, hV, rfl, hfz, hnd⟩ := hW
  have hA : DataW.TrodAll enc Try.prog W 0 (fun _ => true) true Try.f4.params.toList args.toList ds p := hA0
  rw [Try.params4] at hA hval
  obtain ⟨v0, vs0, d0, ds0, p0, q0, hargs, rfl, rfl, h0, r0⟩ := trodAll_cons hA
  obtain ⟨v1, vs1, d1, ds1, p1, q1, rfl, rfl, rfl, h1, r1⟩ := trodAll_cons r0
  obtain ⟨v2, vs2, d2, ds2, p2, q2, rfl, rfl, rfl, h2, r2⟩ := trodAll_cons r1
  obtain ⟨rfl, rfl, rfl⟩ := trodAll_nil r2
  obtain rfl : args = #[v0, v1, v2] := by cases args; simp_all
  obtain ⟨rfl, rfl⟩ := trodVars_none hV
  obtain ⟨l0, hl0⟩ := tabs_of Try.underlying22 Try.underlying31 Try.underlying3 (by kernel_rfl) (by constructor <;> kernel_rfl) (by constructor <;> kernel_rfl) (by kernel_rfl) (hval 0 22 v0 rfl rfl) h0
  obtain ⟨c1, e1, y1, z1, m1, rfl, rfl, rfl, hy1, hz1⟩ := open_agg2 Try.underlying24 (by kernel_rfl) (by kernel_rfl) (hval 1 24 v1 rfl rfl) h1
  obtain ⟨a1, f1, rfl, wa1⟩ := DataW.trod_int Try.underlying3 hy1
  obtain ⟨b1, g1, rfl, wb1⟩ := DataW.trod_int Try.underlying3 hz1
  simp only [List.cons.injEq, and_true] at f1 g1
  subst f1 g1
  obtain ⟨c2, e2, y2, z2, m2, rfl, rfl, rfl, hy2, hz2⟩ := open_agg2 Try.underlying24 (by kernel_rfl) (by kernel_rfl) (hval 2 24 v2 rfl rfl) h2
  obtain ⟨a2, f2, rfl, wa2⟩ := DataW.trod_int Try.underlying3 hy2
  obtain ⟨b2, g2, rfl, wb2⟩ := DataW.trod_int Try.underlying3 hz2
  simp only [List.cons.injEq, and_true] at f2 g2
  subst f2 g2
  simp only [List.append_nil] at hW'
  refine (law34_Courses v0 l0 hl0 a1 b1 wa1 wb1 a2 b2 wa2 wb2).mono fun e W' ⟨he, d, hw⟩ => ?_
  subst he; subst hw
  exact ⟨_, rfl, law_post laid_out hW' rfl rfl rfl Try.underlying4 (by kernel_rfl) (bw_below W d)⟩

theorem holds_CompassCourses : Rows.CompassCoursesSaid :=
  OpenClaim.holds_of_wide 4 Try.f4 rfl rfl rfl rfl rfl rfl rfl ⟨rfl, rfl, rfl, rfl, rfl⟩ rfl rfl rfl rfl rfl (by kernel_rfl) Try.func4 (by kernel_rfl)
    (of_decide_eq_true (by kernel_rfl)) (by unfold Func.isWrapper; first | (rw [if_pos (by decide +kernel)]; kernel_rfl) | (rw [if_neg (by decide +kernel)]; exact ⟨rfl, rfl⟩))
    (fun os started H enc _ => lifted_CompassCourses os started H enc)


#print axioms holds_CompassCourses
end Go.Proofs.Ytjfkaogjlfgelaa
