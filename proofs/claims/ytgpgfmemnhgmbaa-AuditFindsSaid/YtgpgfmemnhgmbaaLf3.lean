/- AuditFinds: all cases. -/
import Derived.Test.YtgpgfmemnhgmbaaProg
import Derived.Test.YtgpgfmemnhgmbaaLay
import Derived.Test.YtgpgfmemnhgmbaaRegion
import Derived.Test.YtgpgfmemnhgmbaaMix
import Derived.WalkKit
import Derived.WalkSpells
import Derived.WalkLawsBesides
import Derived.Lib.Hide
import Derived.BigQuiet
import Derived.Test.YtgpgfmemnhgmbaaLf2
namespace Go.Proofs.Ytgpgfmemnhgmbaa
open Go.RowKit

theorem law15_Finds (v : Value) (l : List Int) {w : World} (hs : Sl w v l) (bend : Int) (wb : (Lit.int .u16 bend).wf = true) (at_ : Int) (wa : (Lit.int .u8 at_).wf = true) (ch : Int) (wc : (Lit.int .i32 ch).wf = true) :
    Calls Try.prog 9 #[v, .int .u16 bend, .int .u8 at_, .int .i32 ch] w fun e w' => e = .returned (.bool true) ∧ ∃ d, w' = bw w d := by
  have bb := wf_u16_15 wb
  have ba := wf_u8_15 wa
  have bc := wf_i32_15 wc
  by_cases h1 : 40 < l.length
  · exact law15_Finds_out v l hs bend bb at_ ch bc (.inl h1)
  · by_cases h2 : givE false l = 0
    · by_cases h3 : -(bend % 1001) - 2 ≤ ch ∧ ch ≤ bend % 1001 + 2
      · exact law15_Finds_out v l hs bend bb at_ ch bc (.inr (.inr h3))
      · by_cases h4 : Poss false l (bend % 1001)
        · exact law15_Finds_yes v l hs bend bb at_ ba ch bc (by omega) (giv_iff.1 h2) (by omega) h4
        · exact law15_Finds_not v l hs bend bb at_ ch bc (by omega) (giv_iff.1 h2) (by omega) h4
    · exact law15_Finds_out v l hs bend bb at_ ch bc (.inr (.inl h2))
end Go.Proofs.Ytgpgfmemnhgmbaa
