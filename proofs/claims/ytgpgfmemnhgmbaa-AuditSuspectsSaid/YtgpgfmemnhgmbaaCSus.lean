/- AuditSuspects: for any track Suspects returns the suspects that the reference finds, or the specified error (lists of at most 60 entries, or too many). No condition. -/
import Derived.Test.YtgpgfmemnhgmbaaFrame
import Derived.Test.YtgpgfmemnhgmbaaSl
import Derived.Test.YtgpgfmemnhgmbaaTrs
import Derived.Test.YtgpgfmemnhgmbaaLs
namespace Go.Proofs.Ytgpgfmemnhgmbaa
open Go.ChangeShapes Go.WideShapes Go.ChangeAt Go.RowKit Go.Joins

set_option maxRecDepth 100000 in
theorem lifted_AuditSuspects (os : Os) (started : os.Started) (H : Type) (enc : TypeId × Value → H) :
    ReturnsInHanded {} Try.checked os 8 .any (Rows.auditSuspectsSpec.pre6 enc Try.prog Try.f8 Rows.auditSuspectsRow.domain false) (Rows.auditSuspectsSpec.post enc Try.prog Try.f8 false true false false) := by
  refine returnsInHanded_of_change (C := Try.checked) ownKnob_none started (by kernel_rfl) Try.func8
    (ChangeSpec.witness6 (enc := enc) (C := Try.checked) false ⟨#[], #[.agg #[.string ⟨#[]⟩, .slice none 0 0, .slice none 0 0, .int .i64 0, .int .i64 0, .int .i64 0]], []⟩ 8 (by kernel_rfl) (by kernel_rfl) (by kernel_rfl) (by kernel_rfl)) ?_
  intro W base args ds gs before hval0 hW hcnd _
  have hval : ∀ (j : Nat) t v, Try.f8.params[j]? = some t → args[j]? = some v → Value.okWide Try.prog W .any base t v := hval0
  have hW' := hW
  obtain ⟨p, q, hA0, hV, rfl, hfz, hnd⟩ := hW
  have hA : DataW.TrodAll enc Try.prog W 0 (fun _ => true) true Try.f8.params.toList args.toList ds p := hA0
  rw [Try.params8] at hA hval
  obtain ⟨v0, vs0, d0, ds0, p0, q0, hargs, rfl, rfl, h0, r0⟩ := trodAll_cons hA
  obtain ⟨rfl, rfl, rfl⟩ := trodAll_nil r0
  obtain rfl : args = #[v0] := by cases args; simp_all
  obtain ⟨rfl, rfl⟩ := trodVars_none hV
  obtain ⟨l0, hl0⟩ := trs_of Try.underlying49 (by kernel_rfl) (by kernel_rfl) ⟨rfl, rfl, rfl, rfl, rfl, rfl⟩ Try.underlying9 Try.underlying3 Try.underlying22 Try.underlying3 (by kernel_rfl) (hval 0 49 v0 rfl rfl) h0
  simp only [List.append_nil] at hW'
  refine (law15_Suspects v0 l0 hl0).mono fun e W' ⟨he, d, hw⟩ => ?_
  subst he; subst hw
  exact ⟨_, rfl, law_post laid_out hW' rfl rfl rfl Try.underlying4 (by kernel_rfl) (bw_below W d)⟩

theorem holds_AuditSuspects : Rows.AuditSuspectsSaid :=
  OpenClaim.holds_of_wide 8 Try.f8 rfl rfl rfl rfl rfl rfl rfl ⟨rfl, rfl, rfl, rfl, rfl⟩ rfl rfl rfl rfl rfl (by kernel_rfl) Try.func8 (by kernel_rfl)
    (of_decide_eq_true (by kernel_rfl)) (by unfold Func.isWrapper; first | (rw [if_pos (by decide +kernel)]; kernel_rfl) | (rw [if_neg (by decide +kernel)]; exact ⟨rfl, rfl⟩))
    (fun os started H enc _ => lifted_AuditSuspects os started H enc)


#print axioms holds_AuditSuspects
end Go.Proofs.Ytgpgfmemnhgmbaa
