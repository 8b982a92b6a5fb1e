/- FinderAngles: Parallactic and Unknown return what is specified, for all arguments. -/
import Derived.Test.YtnnmfdeeicpdlaaGreatHAE
import Derived.Test.YtnnmfdeeicpdlaaGreatHBN
import Derived.Test.YtnnmfdeeicpdlaaGreatHCB
namespace Go.Proofs.YtnnmfdeeicpdlaaGreat
set_option maxRecDepth 100000
open Go.ChangeShapes Go.WideShapes Go.ChangeAt Go.RowKit Go.Joins

theorem lifted_FinderAngles (os : Os) (started : os.Started) (H : Type) (enc : TypeId × Value → H) :
    ReturnsInHanded {} Tryz.checked os 5 .any (Rows.finderAnglesSpec.pre6 enc Tryz.prog Tryz.f5 Rows.finderAnglesRow.domain false) (Rows.finderAnglesSpec.post enc Tryz.prog Tryz.f5 false true false false) := by
  refine returnsInHanded_of_change (C := Tryz.checked) ownKnob_none started (by kernel_rfl) Tryz.func5
    (ChangeSpec.witness6 (enc := enc) (C := Tryz.checked) false ⟨#[], #[.agg #[.int .i64 0, .int .i64 0, .int .i64 0, .int .i64 0, .int .i64 0, .int .i64 0], .agg #[.int .i64 0, .int .i64 0], .agg #[.int .i64 0, .int .i64 0], .agg #[.int .i64 0, .int .i64 0]], []⟩ 8 (by kernel_rfl) (by kernel_rfl) (by kernel_rfl) (by kernel_rfl)) ?_
  intro W base args ds gs before hval0 hW hcnd _
  have hval : ∀ (j : Nat) t v, Tryz.f5.params[j]? = some t → args[j]? = some v → Value.okWide Tryz.prog W .any base t v := hval0
  have hW' := hW
  obtain ⟨p, q, hA0, hV, rfl, hfz, hnd⟩ := hW
  have hA : DataW.TrodAll enc Tryz.prog W 0 (fun _ => true) true Tryz.f5.params.toList args.toList ds p := hA0
  rw [Tryz.params5] at hA hval
  obtain ⟨v0, vs0, d0, ds0, p0, q0, hargs, rfl, rfl, h0, r0⟩ := trodAll_cons hA
  obtain ⟨v1, vs1, d1, ds1, p1, q1, rfl, rfl, rfl, h1, r1⟩ := trodAll_cons r0
  obtain ⟨v2, vs2, d2, ds2, p2, q2, rfl, rfl, rfl, h2, r2⟩ := trodAll_cons r1
  obtain ⟨v3, vs3, d3, ds3, p3, q3, rfl, rfl, rfl, h3, r3⟩ := trodAll_cons r2
  obtain ⟨rfl, rfl, rfl⟩ := trodAll_nil r3
  obtain rfl : args = #[v0, v1, v2, v3] := by cases args; simp_all
  obtain ⟨rfl, rfl⟩ := trodVars_none hV
  obtain ⟨a0, b0, e0, g0, i0, k0, rfl⟩ := tri_arg (hval 0 45 v0 rfl rfl) h0
  obtain ⟨c1, e1, y1, z1, m1, rfl, rfl, rfl, hy1, hz1⟩ := open_agg2 Tryz.underlying23 (by kernel_rfl) (by kernel_rfl) (hval 1 23 v1 rfl rfl) h1
  obtain ⟨a1, f1, rfl, wa1⟩ := DataW.trod_int Tryz.underlying3 hy1
  obtain ⟨b1, g1, rfl, wb1⟩ := DataW.trod_int Tryz.underlying3 hz1
  simp only [List.cons.injEq, and_true] at f1 g1
  subst f1 g1
  obtain ⟨c2, e2, y2, z2, m2, rfl, rfl, rfl, hy2, hz2⟩ := open_agg2 Tryz.underlying23 (by kernel_rfl) (by kernel_rfl) (hval 2 23 v2 rfl rfl) h2
  obtain ⟨a2, f2, rfl, wa2⟩ := DataW.trod_int Tryz.underlying3 hy2
  obtain ⟨b2, g2, rfl, wb2⟩ := DataW.trod_int Tryz.underlying3 hz2
  simp only [List.cons.injEq, and_true] at f2 g2
  subst f2 g2
  obtain ⟨c3, e3, y3, z3, m3, rfl, rfl, rfl, hy3, hz3⟩ := open_agg2 Tryz.underlying23 (by kernel_rfl) (by kernel_rfl) (hval 3 23 v3 rfl rfl) h3
  obtain ⟨a3, f3, rfl, wa3⟩ := DataW.trod_int Tryz.underlying3 hy3
  obtain ⟨b3, g3, rfl, wb3⟩ := DataW.trod_int Tryz.underlying3 hz3
  simp only [List.cons.injEq, and_true] at f3 g3
  subst f3 g3
  simp only [List.append_nil] at hW'
  refine (law51_AnglesA a0 b0 e0 g0 i0 k0 a1 b1 wa1 wb1 a2 b2 wa2 wb2 a3 b3 wa3 wb3 W).mono fun e W' ⟨he, d, hw⟩ => ?_
  subst he; subst hw
  exact ⟨_, rfl, law_post laid_out hW' rfl rfl rfl Tryz.underlying4 (by kernel_rfl) (bw_below W d)⟩

theorem cl_finderAngles_inPlace : (Rows.finderAnglesRow.inPlace == Tryz.pinned.checked.prog.inPlace 5) = true := by kernel_rfl
theorem cl_finderAngles_unfollowed : (Rows.finderAnglesRow.unfollowed == Tryz.pinned.checked.prog.unfollowed 5) = true := by kernel_rfl
theorem cl_finderAngles_recurses : (Rows.finderAnglesRow.recurses == Tryz.pinned.checked.prog.recurses 5) = true := by kernel_rfl
theorem cl_finderAngles_named : (Rows.finderAnglesRow.named == Tryz.pinned.checked.prog.varsNamed 5) = true := by kernel_rfl
theorem cl_finderAngles : Go.joinedFacts Tryz.pinned.checked.prog 5 Tryz.f5 Rows.finderAnglesSpec Rows.finderAnglesRow = true := by
  unfold Go.joinedFacts
  rw [cl_finderAngles_inPlace, cl_finderAngles_unfollowed, cl_finderAngles_recurses, cl_finderAngles_named]
  kernel_rfl
theorem holds_FinderAngles : Rows.FinderAnglesSaid :=
  OpenClaim.holds_of_wide 5 Tryz.f5 rfl rfl rfl rfl rfl rfl rfl ⟨rfl, rfl, rfl, rfl, rfl⟩ rfl rfl rfl rfl rfl (by kernel_rfl) Tryz.func5 cl_finderAngles
    (of_decide_eq_true (by kernel_rfl)) (by unfold Func.isWrapper; first | (rw [if_pos (by decide +kernel)]; kernel_rfl) | (rw [if_neg (by decide +kernel)]; exact ⟨rfl, rfl⟩))
    (fun os started H enc _ => lifted_FinderAngles os started H enc)


#print axioms holds_FinderAngles
end Go.Proofs.YtnnmfdeeicpdlaaGreat
