/- Contracts of package almanac: the arc for tenths. -/
import Derived.Test.YtlkphcjlgbimkaaGreatProg
import Derived.Test.YtlkphcjlgbimkaaGreatLay
import Derived.Test.YtlkphcjlgbimkaaGreatRegion
import Derived.Test.YtlkphcjlgbimkaaGreatMix
import Derived.WalkKit
import Derived.WalkSpells
import Derived.WalkLawsBesides
import Derived.Lib.Hide
import Derived.BigQuiet
import Derived.Test.YtlkphcjlgbimkaaGreatPlain
import Derived.Test.YtlkphcjlgbimkaaGreatAngle
import Derived.Test.YtlkphcjlgbimkaaGreatSid5
namespace Go.Proofs.YtlkphcjlgbimkaaGreat
open Go.RowKit

set_option maxHeartbeats 400000 in
theorem alm_around (n : Int) (w : World) (h0 : -1000000000 ≤ n) (h1 : n ≤ 1000000000) :
    Calls Tryz.prog 119 #[.int .i64 n] w fun e w' => e = .returned (.agg #[.int .i64 (100 * n - 50), .int .i64 (100 * n + 50)]) ∧ ∃ d, w' = bw w d := by
  refine lay_start ?_
  go_enter Tryz.func119, Tryz.ntmps119
  go_wp2_with fail
  all_goals exact bodyPost_ret (v := (.agg #[.int .i64 (100 * n - 50), .int .i64 (100 * n + 50)])) (by simp [results, Tryz.results119, go_sem]) rfl ⟨rfl, lay_ex _ _⟩
set_option maxHeartbeats 400000 in
theorem ref13_Around (n : Int) (w : World) (h0 : -1000000000 ≤ n) (h1 : n ≤ 1000000000) :
    Calls Tryz.prog 73 #[.int .i64 n] w fun e w' => e = .returned (.agg #[.int .i64 (100 * n - 50), .int .i64 (100 * n + 50)]) ∧ ∃ d, w' = bw w d := by
  refine lay_start ?_
  go_enter Tryz.func73, Tryz.ntmps73
  go_wp2_with fail
  all_goals exact bodyPost_ret (v := (.agg #[.int .i64 (100 * n - 50), .int .i64 (100 * n + 50)])) (by simp [results, Tryz.results73, go_sem]) rfl ⟨rfl, lay_ex _ _⟩
end Go.Proofs.YtlkphcjlgbimkaaGreat
