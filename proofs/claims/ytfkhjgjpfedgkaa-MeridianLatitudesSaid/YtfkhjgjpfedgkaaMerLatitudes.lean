/- MeridianLatitudes: for any arcs, on either side, Latitude and Below return what the reference specifies. No condition. -/
import Derived.Test.YtfkhjgjpfedgkaaFrame
import Derived.Test.YtfkhjgjpfedgkaaMer3
namespace Go.Proofs.Ytfkhjgjpfedgkaa
open Go.ChangeShapes Go.WideShapes Go.ChangeAt Go.RowKit Go.Joins

theorem walk_MeridianLatitudes (x0 y0 : Int) (_ : (Lit.int .i64 x0).wf = true) (_ : (Lit.int .i64 y0).wf = true) (x1 y1 : Int) (_ : (Lit.int .i64 x1).wf = true) (_ : (Lit.int .i64 y1).wf = true) (b : Bool) (w : World) :
    Calls Try.prog 3 #[(.agg #[.int .i64 (x0), .int .i64 (y0)]), (.agg #[.int .i64 (x1), .int .i64 (y1)]), .bool b] w fun e w' => e = .returned (.bool true) ∧ ∃ d, w' = bw w d :=
  law33_Latitudes x0 y0 x1 y1 b w
set_option maxRecDepth 100000 in
theorem lifted_MeridianLatitudes (os : Os) (started : os.Started) (H : Type) (enc : TypeId × Value → H) :
    ReturnsInHanded {} Try.checked os 3 .any (Rows.meridianLatitudesSpec.pre6 enc Try.prog Try.f3 Rows.meridianLatitudesRow.domain false) (Rows.meridianLatitudesSpec.post enc Try.prog Try.f3 false true false false) := by
  refine returnsInHanded_of_change (C := Try.checked) ownKnob_none started (by kernel_rfl) Try.func3
    (ChangeSpec.witness6 (enc := enc) (C := Try.checked) false ⟨#[], #[.agg #[.int .i64 0, .int .i64 0], .agg #[.int .i64 0, .int .i64 0], .bool false], []⟩ 8 (by kernel_rfl) (by kernel_rfl) (by kernel_rfl) (by kernel_rfl)) ?_
  intro W base args ds gs before hval0 hW hcnd _
  have hval : ∀ (j : Nat) t v, Try.f3.params[j]? = some t → args[j]? = some v → Value.okWide Try.prog W .any base t v := hval0
  have hW' := hW
  obtain ⟨p, q, hA0, hV, rfl, hfz, hnd⟩ := hW
  have hA : DataW.TrodAll enc Try.prog W 0 (fun _ => true) true Try.f3.params.toList args.toList ds p := hA0
  rw [Try.params3] at hA hval
  obtain ⟨v0, vs0, d0, ds0, p0, q0, hargs, rfl, rfl, h0, r0⟩ := trodAll_cons hA
  obtain ⟨v1, vs1, d1, ds1, p1, q1, rfl, rfl, rfl, h1, r1⟩ := trodAll_cons r0
  obtain ⟨v2, vs2, d2, ds2, p2, q2, rfl, rfl, rfl, h2, r2⟩ := trodAll_cons r1
  obtain ⟨rfl, rfl, rfl⟩ := trodAll_nil r2
  obtain rfl : args = #[v0, v1, v2] := by cases args; simp_all
  obtain ⟨rfl, rfl⟩ := trodVars_none hV
  obtain ⟨c0, e0, y0, z0, m0, rfl, rfl, rfl, hy0, hz0⟩ := open_agg2 Try.underlying23 (by kernel_rfl) (by kernel_rfl) (hval 0 23 v0 rfl rfl) h0
  obtain ⟨a0, f0, rfl, wa0⟩ := DataW.trod_int Try.underlying3 hy0
  obtain ⟨b0, g0, rfl, wb0⟩ := DataW.trod_int Try.underlying3 hz0
  simp only [List.cons.injEq, and_true] at f0 g0
  subst f0 g0
  obtain ⟨c1, e1, y1, z1, m1, rfl, rfl, rfl, hy1, hz1⟩ := open_agg2 Try.underlying23 (by kernel_rfl) (by kernel_rfl) (hval 1 23 v1 rfl rfl) h1
  obtain ⟨a1, f1, rfl, wa1⟩ := DataW.trod_int Try.underlying3 hy1
  obtain ⟨b1, g1, rfl, wb1⟩ := DataW.trod_int Try.underlying3 hz1
  simp only [List.cons.injEq, and_true] at f1 g1
  subst f1 g1
  obtain ⟨a2, rfl, rfl, rfl⟩ := open_bool Try.underlying4 (hval 2 4 v2 rfl rfl) h2
  simp only [List.append_nil] at hW'
  refine (walk_MeridianLatitudes a0 b0 wa0 wb0 a1 b1 wa1 wb1 a2 W).mono fun e W' ⟨he, d, hw⟩ => ?_
  subst he; subst hw
  exact ⟨_, rfl, law_post laid_out hW' rfl rfl rfl Try.underlying4 (by kernel_rfl) (bw_below W d)⟩

theorem holds_MeridianLatitudes : Rows.MeridianLatitudesSaid :=
  OpenClaim.holds_of_wide 3 Try.f3 rfl rfl rfl rfl rfl rfl rfl ⟨rfl, rfl, rfl, rfl, rfl⟩ rfl rfl rfl rfl rfl (by kernel_rfl) Try.func3 (by kernel_rfl)
    (of_decide_eq_true (by kernel_rfl)) (by unfold Func.isWrapper; first | (rw [if_pos (by decide +kernel)]; kernel_rfl) | (rw [if_neg (by decide +kernel)]; exact ⟨rfl, rfl⟩))
    (fun os started H enc _ => lifted_MeridianLatitudes os started H enc)

#print axioms holds_MeridianLatitudes
end Go.Proofs.Ytfkhjgjpfedgkaa
