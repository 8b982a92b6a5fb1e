/- CompassFinds: all cases. -/
import Derived.Test.YtlkphcjlgbimkaaProg
import Derived.Test.YtlkphcjlgbimkaaLay
import Derived.Test.YtlkphcjlgbimkaaRegion
import Derived.Test.YtlkphcjlgbimkaaMix
import Derived.WalkKit
import Derived.WalkSpells
import Derived.WalkLawsBesides
import Derived.Lib.Hide
import Derived.BigQuiet
import Derived.Test.YtlkphcjlgbimkaaFi4
namespace Go.Proofs.Ytlkphcjlgbimkaa
open Go.RowKit

theorem law34_Finds (v : Value) (l : Tl) {w : World} (hv : Tabs w v l) (B : Int) (_ : (Lit.int .i64 B).wf = true) (V : Int) (_ : (Lit.int .i64 V).wf = true) (z0 z1 : Int) (_ : (Lit.int .i64 z0).wf = true) (_ : (Lit.int .i64 z1).wf = true) :
    Calls Try.prog 4 #[v, .int .i64 B, .int .i64 V, (.agg #[.int .i64 (z0), .int .i64 (z1)])] w fun e w' => e = .returned (.bool true) ∧ ∃ d, w' = bw w d := by
  by_cases h : l.length = 0 ∨ vB l = false ∨ B < 0 ∨ 21600000 ≤ B ∨ V < -10800000 ∨ 10800000 < V ∨ validB z0 z1 = false ∨ farB z0 z1 = false
  · exact law34_Finds_out v l hv B V z0 z1 h
  · simp only [not_or, Bool.not_eq_false] at h
    obtain ⟨h0, h1, h2, h3, h4, h5, h6, h7⟩ := h
    exact law34_Finds_in v l hv B V z0 z1 (vB_iff.1 h1) (by omega) (by omega) (by omega) (by omega) (by omega) h6 h7
end Go.Proofs.Ytlkphcjlgbimkaa
