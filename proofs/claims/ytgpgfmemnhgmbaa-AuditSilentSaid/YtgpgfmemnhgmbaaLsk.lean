/- AuditSilent: all cases. -/
import Derived.Test.YtgpgfmemnhgmbaaProg
import Derived.Test.YtgpgfmemnhgmbaaLay
import Derived.Test.YtgpgfmemnhgmbaaRegion
import Derived.Test.YtgpgfmemnhgmbaaMix
import Derived.WalkKit
import Derived.WalkSpells
import Derived.WalkLawsBesides
import Derived.Lib.Hide
import Derived.BigQuiet
import Derived.Test.YtgpgfmemnhgmbaaLsj
import Derived.Test.YtgpgfmemnhgmbaaLf
namespace Go.Proofs.Ytgpgfmemnhgmbaa
open Go.RowKit

theorem law15_Silent (a0 : Int) (w0 : (Lit.int .i32 a0).wf = true) (a1 : Int) (w1 : (Lit.int .i32 a1).wf = true) (v : Value) (l : List Int) {w : World} (hs : Lst16 w v l) (bend : Int) (wb : (Lit.int .u16 bend).wf = true) (wr : Bool) :
    Calls Try.prog 6 #[.int .i32 a0, .int .i32 a1, v, .int .u16 bend, .bool wr] w fun e w' => e = .returned (.bool true) ∧ ∃ d, w' = bw w d := by
  by_cases h : l.length = 0 ∨ 38 < l.length
  · exact law15_Silent_out a0 a1 v l hs bend (wf_u16_15 wb) wr h
  · exact law15_Silent_in a0 a1 (wf_i32_15 w0) (wf_i32_15 w1) v l hs bend (wf_u16_15 wb) wr (by omega) (by omega)
end Go.Proofs.Ytgpgfmemnhgmbaa
