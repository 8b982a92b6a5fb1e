/- IncrementsBetween: an interpolation lies within the hull of both arcs, is these at the ends, and is the same from the other side. No condition. -/
import Derived.Test.YtknammeehedbdaaFrame
import Derived.Test.YtknammeehedbdaaInc4
namespace Go.Proofs.Ytknammeehedbdaa
open Go.ChangeShapes Go.WideShapes Go.ChangeAt Go.RowKit Go.Joins

theorem walk_IncrementsBetween (x0 y0 : Int) (_ : (Lit.int .i64 x0).wf = true) (_ : (Lit.int .i64 y0).wf = true) (x1 y1 : Int) (_ : (Lit.int .i64 x1).wf = true) (_ : (Lit.int .i64 y1).wf = true) (num : Int) (_ : (Lit.int .i64 num).wf = true) (den : Int) (_ : (Lit.int .i64 den).wf = true) (w : World) :
    Calls Try.prog 5 #[(.agg #[.int .i64 (x0), .int .i64 (y0)]), (.agg #[.int .i64 (x1), .int .i64 (y1)]), .int .i64 num, .int .i64 den] w fun e w' => e = .returned (.bool true) ∧ ∃ d, w' = bw w d :=
  law14_Between x0 y0 x1 y1 num den w
set_option maxRecDepth 100000 in
theorem lifted_IncrementsBetween (os : Os) (started : os.Started) (H : Type) (enc : TypeId × Value → H) :
    ReturnsInHanded {} Try.checked os 5 .any (Rows.incrementsBetweenSpec.pre6 enc Try.prog Try.f5 Rows.incrementsBetweenRow.domain false) (Rows.incrementsBetweenSpec.post enc Try.prog Try.f5 false true false false) := by
  refine returnsInHanded_of_change (C := Try.checked) ownKnob_none started (by kernel_rfl) Try.func5
    (ChangeSpec.witness6 (enc := enc) (C := Try.checked) false ⟨#[], #[.agg #[.int .i64 0, .int .i64 0], .agg #[.int .i64 0, .int .i64 0], .int .i64 0, .int .i64 0], []⟩ 8 (by kernel_rfl) (by kernel_rfl) (by kernel_rfl) (by kernel_rfl)) ?_
  intro W base args ds gs before hval0 hW hcnd _
  have hval : ∀ (j : Nat) t v, Try.f5.params[j]? = some t → args[j]? = some v → Value.okWide Try.prog W .any base t v := hval0
  have hW' := hW
  obtain ⟨p, q, hA0, hV, rfl, hfz, hnd⟩ := hW
  have hA : DataW.TrodAll enc Try.prog W 0 (fun _ => true) true Try.f5.params.toList args.toList ds p := hA0
  rw [Try.params5] at hA hval
  obtain ⟨v0, vs0, d0, ds0, p0, q0, hargs, rfl, rfl, h0, r0⟩ := trodAll_cons hA
  obtain ⟨v1, vs1, d1, ds1, p1, q1, rfl, rfl, rfl, h1, r1⟩ := trodAll_cons r0
  obtain ⟨v2, vs2, d2, ds2, p2, q2, rfl, rfl, rfl, h2, r2⟩ := trodAll_cons r1
  obtain ⟨v3, vs3, d3, ds3, p3, q3, rfl, rfl, rfl, h3, r3⟩ := trodAll_cons r2
  obtain ⟨rfl, rfl, rfl⟩ := trodAll_nil r3
  obtain rfl : args = #[v0, v1, v2, v3] := by cases args; simp_all
  obtain ⟨rfl, rfl⟩ := trodVars_none hV
  obtain ⟨c0, e0, y0, z0, m0, rfl, rfl, rfl, hy0, hz0⟩ := open_agg2 Try.underlying23 (by kernel_rfl) (by kernel_rfl) (hval 0 23 v0 rfl rfl) h0
  obtain ⟨a0, f0, rfl, wa0⟩ := DataW.trod_int Try.underlying3 hy0
  obtain ⟨b0, g0, rfl, wb0⟩ := DataW.trod_int Try.underlying3 hz0
  simp only [List.cons.injEq, and_true] at f0 g0
  subst f0 g0
  obtain ⟨c1, e1, y1, z1, m1, rfl, rfl, rfl, hy1, hz1⟩ := open_agg2 Try.underlying23 (by kernel_rfl) (by kernel_rfl) (hval 1 23 v1 rfl rfl) h1
  obtain ⟨a1, f1, rfl, wa1⟩ := DataW.trod_int Try.underlying3 hy1
  obtain ⟨b1, g1, rfl, wb1⟩ := DataW.trod_int Try.underlying3 hz1
  simp only [List.cons.injEq, and_true] at f1 g1
  subst f1 g1
  obtain ⟨a2, rfl, rfl, rfl, w2⟩ := open_int Try.underlying3 (hval 2 3 v2 rfl rfl) h2
  obtain ⟨a3, rfl, rfl, rfl, w3⟩ := open_int Try.underlying3 (hval 3 3 v3 rfl rfl) h3
  simp only [List.append_nil] at hW'
  refine (walk_IncrementsBetween a0 b0 wa0 wb0 a1 b1 wa1 wb1 a2 w2 a3 w3 W).mono fun e W' ⟨he, d, hw⟩ => ?_
  subst he; subst hw
  exact ⟨_, rfl, law_post laid_out hW' rfl rfl rfl Try.underlying4 (by kernel_rfl) (bw_below W d)⟩

theorem holds_IncrementsBetween : Rows.IncrementsBetweenSaid :=
  OpenClaim.holds_of_wide 5 Try.f5 rfl rfl rfl rfl rfl rfl rfl ⟨rfl, rfl, rfl, rfl, rfl⟩ rfl rfl rfl rfl rfl (by kernel_rfl) Try.func5 (by kernel_rfl)
    (of_decide_eq_true (by kernel_rfl)) (by unfold Func.isWrapper; first | (rw [if_pos (by decide +kernel)]; kernel_rfl) | (rw [if_neg (by decide +kernel)]; exact ⟨rfl, rfl⟩))
    (fun os started H enc _ => lifted_IncrementsBetween os started H enc)

#print axioms holds_IncrementsBetween
end Go.Proofs.Ytknammeehedbdaa
