/- FinderSines: the sines are as the sides, for all arguments. -/
import Derived.Test.YtkhhdpndcidmgaaGreatSBE
import Derived.Test.YtkhhdpndcidmgaaGreatSBK
import Derived.Test.YtkhhdpndcidmgaaGreatSCB
namespace Go.Proofs.YtkhhdpndcidmgaaGreat
set_option maxRecDepth 100000
open Go.ChangeShapes Go.WideShapes Go.ChangeAt Go.RowKit Go.Joins

theorem lifted_FinderSines (os : Os) (started : os.Started) (H : Type) (enc : TypeId × Value → H) :
    ReturnsInHanded {} Tryz.checked os 3 .any (Rows.finderSinesSpec.pre6 enc Tryz.prog Tryz.f3 Rows.finderSinesRow.domain false) (Rows.finderSinesSpec.post enc Tryz.prog Tryz.f3 false true false false) := by
  refine returnsInHanded_of_change (C := Tryz.checked) ownKnob_none started (by kernel_rfl) Tryz.func3
    (ChangeSpec.witness6 (enc := enc) (C := Tryz.checked) false ⟨#[], #[.agg #[.int .i64 0, .int .i64 0, .int .i64 0, .int .i64 0, .int .i64 0, .int .i64 0]], []⟩ 8 (by kernel_rfl) (by kernel_rfl) (by kernel_rfl) (by kernel_rfl)) ?_
  intro W base args ds gs before hval0 hW hcnd _
  have hval : ∀ (j : Nat) t v, Tryz.f3.params[j]? = some t → args[j]? = some v → Value.okWide Tryz.prog W .any base t v := hval0
  have hW' := hW
  obtain ⟨p, q, hA0, hV, rfl, hfz, hnd⟩ := hW
  have hA : DataW.TrodAll enc Tryz.prog W 0 (fun _ => true) true Tryz.f3.params.toList args.toList ds p := hA0
  rw [Tryz.params3] at hA hval
  obtain ⟨v0, vs0, d0, ds0, p0, q0, hargs, rfl, rfl, h0, r0⟩ := trodAll_cons hA
  obtain ⟨rfl, rfl, rfl⟩ := trodAll_nil r0
  obtain rfl : args = #[v0] := by cases args; simp_all
  obtain ⟨rfl, rfl⟩ := trodVars_none hV
  obtain ⟨a0, b0, e0, g0, i0, k0, rfl⟩ := tri_arg (hval 0 25 v0 rfl rfl) h0
  simp only [List.append_nil] at hW'
  refine (law51_Sines a0 b0 e0 g0 i0 k0 W).mono fun e W' ⟨he, d, hw⟩ => ?_
  subst he; subst hw
  exact ⟨_, rfl, law_post laid_out hW' rfl rfl rfl Tryz.underlying4 (by kernel_rfl) (bw_below W d)⟩

theorem cl_finderSines_inPlace : (Rows.finderSinesRow.inPlace == Tryz.pinned.checked.prog.inPlace 3) = true := by kernel_rfl
theorem cl_finderSines_unfollowed : (Rows.finderSinesRow.unfollowed == Tryz.pinned.checked.prog.unfollowed 3) = true := by kernel_rfl
theorem cl_finderSines_recurses : (Rows.finderSinesRow.recurses == Tryz.pinned.checked.prog.recurses 3) = true := by kernel_rfl
theorem cl_finderSines_named : (Rows.finderSinesRow.named == Tryz.pinned.checked.prog.varsNamed 3) = true := by kernel_rfl
theorem cl_finderSines : Go.joinedFacts Tryz.pinned.checked.prog 3 Tryz.f3 Rows.finderSinesSpec Rows.finderSinesRow = true := by
  unfold Go.joinedFacts
  rw [cl_finderSines_inPlace, cl_finderSines_unfollowed, cl_finderSines_recurses, cl_finderSines_named]
  kernel_rfl
theorem holds_FinderSines : Rows.FinderSinesSaid :=
  OpenClaim.holds_of_wide 3 Tryz.f3 rfl rfl rfl rfl rfl rfl rfl ⟨rfl, rfl, rfl, rfl, rfl⟩ rfl rfl rfl rfl rfl (by kernel_rfl) Tryz.func3 cl_finderSines
    (of_decide_eq_true (by kernel_rfl)) (by unfold Func.isWrapper; first | (rw [if_pos (by decide +kernel)]; kernel_rfl) | (rw [if_neg (by decide +kernel)]; exact ⟨rfl, rfl⟩))
    (fun os started H enc _ => lifted_FinderSines os started H enc)


#print axioms holds_FinderSines
end Go.Proofs.YtkhhdpndcidmgaaGreat
