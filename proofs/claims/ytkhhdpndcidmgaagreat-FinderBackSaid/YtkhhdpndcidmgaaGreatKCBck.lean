/- FinderBack: a star is found back, for all arguments. -/
import Derived.Test.YtkhhdpndcidmgaaGreatTAW
import Derived.Test.YtkhhdpndcidmgaaGreatTBA
import Derived.Test.YtkhhdpndcidmgaaGreatTBP
import Derived.Test.YtkhhdpndcidmgaaGreatTCB
namespace Go.Proofs.YtkhhdpndcidmgaaGreat
set_option maxRecDepth 100000
open Go.ChangeShapes Go.WideShapes Go.ChangeAt Go.RowKit Go.Joins

theorem lifted_FinderBack (os : Os) (started : os.Started) (H : Type) (enc : TypeId × Value → H) :
    ReturnsInHanded {} Tryz.checked os 4 .any (Rows.finderBackSpec.pre6 enc Tryz.prog Tryz.f4 Rows.finderBackRow.domain false) (Rows.finderBackSpec.post enc Tryz.prog Tryz.f4 false true false false) := by
  refine returnsInHanded_of_change (C := Tryz.checked) ownKnob_none started (by kernel_rfl) Tryz.func4
    (ChangeSpec.witness6 (enc := enc) (C := Tryz.checked) false ⟨#[], #[.agg #[.string ⟨#[]⟩, .int .i64 0, .int .i64 0, .int .i64 0], .agg #[.int .i64 0, .int .i64 0], .agg #[.int .i64 0, .int .i64 0, .int .i64 0, .int .i64 0]], []⟩ 8 (by kernel_rfl) (by kernel_rfl) (by kernel_rfl) (by kernel_rfl)) ?_
  intro W base args ds gs before hval0 hW hcnd _
  have hval : ∀ (j : Nat) t v, Tryz.f4.params[j]? = some t → args[j]? = some v → Value.okWide Tryz.prog W .any base t v := hval0
  have hW' := hW
  obtain ⟨p, q, hA0, hV, rfl, hfz, hnd⟩ := hW
  have hA : DataW.TrodAll enc Tryz.prog W 0 (fun _ => true) true Tryz.f4.params.toList args.toList ds p := hA0
  rw [Tryz.params4] at hA hval
  obtain ⟨v0, vs0, d0, ds0, p0, q0, hargs, rfl, rfl, h0, r0⟩ := trodAll_cons hA
  obtain ⟨v1, vs1, d1, ds1, p1, q1, rfl, rfl, rfl, h1, r1⟩ := trodAll_cons r0
  obtain ⟨v2, vs2, d2, ds2, p2, q2, rfl, rfl, rfl, h2, r2⟩ := trodAll_cons r1
  obtain ⟨rfl, rfl, rfl⟩ := trodAll_nil r2
  obtain rfl : args = #[v0, v1, v2] := by cases args; simp_all
  obtain ⟨rfl, rfl⟩ := trodVars_none hV
  obtain ⟨z0, rfl, hz0⟩ := star_arg (hval 0 42 v0 rfl rfl) h0
  obtain ⟨c1, e1, y1, z1, m1, rfl, rfl, rfl, hy1, hz1⟩ := open_agg2 Tryz.underlying43 (by kernel_rfl) (by kernel_rfl) (hval 1 43 v1 rfl rfl) h1
  obtain ⟨a1, f1, rfl, wa1⟩ := DataW.trod_int Tryz.underlying3 hy1
  obtain ⟨b1, g1, rfl, wb1⟩ := DataW.trod_int Tryz.underlying3 hz1
  simp only [List.cons.injEq, and_true] at f1 g1
  subst f1 g1
  obtain ⟨a2, b2, e2, g2, rfl, wa2, wb2, we2, wg2⟩ := pl_arg (hval 2 45 v2 rfl rfl) h2
  simp only [List.append_nil] at hW'
  refine (law51_BackF z0 hz0 a1 b1 wa1 wb1 a2 b2 wa2 wb2 e2 g2 we2 wg2 W).mono fun e W' ⟨he, d, hw⟩ => ?_
  subst he; subst hw
  exact ⟨_, rfl, law_post laid_out hW' rfl rfl rfl Tryz.underlying4 (by kernel_rfl) (bw_below W d)⟩

theorem cl_finderBack_inPlace : (Rows.finderBackRow.inPlace == Tryz.pinned.checked.prog.inPlace 4) = true := by kernel_rfl
theorem cl_finderBack_unfollowed : (Rows.finderBackRow.unfollowed == Tryz.pinned.checked.prog.unfollowed 4) = true := by kernel_rfl
theorem cl_finderBack_recurses : (Rows.finderBackRow.recurses == Tryz.pinned.checked.prog.recurses 4) = true := by kernel_rfl
theorem cl_finderBack_named : (Rows.finderBackRow.named == Tryz.pinned.checked.prog.varsNamed 4) = true := by kernel_rfl
theorem cl_finderBack : Go.joinedFacts Tryz.pinned.checked.prog 4 Tryz.f4 Rows.finderBackSpec Rows.finderBackRow = true := by
  unfold Go.joinedFacts
  rw [cl_finderBack_inPlace, cl_finderBack_unfollowed, cl_finderBack_recurses, cl_finderBack_named]
  kernel_rfl
theorem holds_FinderBack : Rows.FinderBackSaid :=
  OpenClaim.holds_of_wide 4 Tryz.f4 rfl rfl rfl rfl rfl rfl rfl ⟨rfl, rfl, rfl, rfl, rfl⟩ rfl rfl rfl rfl rfl (by kernel_rfl) Tryz.func4 cl_finderBack
    (of_decide_eq_true (by kernel_rfl)) (by unfold Func.isWrapper; first | (rw [if_pos (by decide +kernel)]; kernel_rfl) | (rw [if_neg (by decide +kernel)]; exact ⟨rfl, rfl⟩))
    (fun os started H enc _ => lifted_FinderBack os started H enc)


#print axioms holds_FinderBack
end Go.Proofs.YtkhhdpndcidmgaaGreat
