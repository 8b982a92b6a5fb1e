/- AuditMends: all cases. -/
import Derived.Test.YtgpgfmemnhgmbaaProg
import Derived.Test.YtgpgfmemnhgmbaaLay
import Derived.Test.YtgpgfmemnhgmbaaRegion
import Derived.Test.YtgpgfmemnhgmbaaMix
import Derived.WalkKit
import Derived.WalkSpells
import Derived.WalkLawsBesides
import Derived.Lib.Hide
import Derived.BigQuiet
import Derived.Test.YtgpgfmemnhgmbaaLm3
namespace Go.Proofs.Ytgpgfmemnhgmbaa
open Go.RowKit

theorem law15_Mends (v : Value) (l : List Int) {w : World} (hs : Sl w v l) (bend : Int) (wb : (Lit.int .u16 bend).wf = true) (more : Int) (wm : (Lit.int .u16 more).wf = true) (at_ : Int) (wa : (Lit.int .u8 at_).wf = true) (wr : Bool) :
    Calls Try.prog 7 #[v, .int .u16 bend, .int .u16 more, .int .u8 at_, .bool wr] w fun e w' => e = .returned (.bool true) ∧ ∃ d, w' = bw w d := by
  have bb := wf_u16_15 wb
  have bm := wf_u16_15 wm
  obtain ⟨a0, a1⟩ := wf_u8_15 wa
  by_cases h : 40 < l.length ∨ givE wr l ≠ 0
  · exact law15_Mends_out v l hs bend bb more bm at_ wr h
  · have h1 : l.length ≤ 40 := by omega
    have h2 : givE wr l = 0 := by omega
    obtain ⟨n, rfl⟩ := Int.eq_ofNat_of_zero_le a0
    by_cases hE : rprE wr l (bend % 1001) ((n % l.length : Nat) : Int) = 0
    · exact law15_Mends_ok v l hs bend bb more bm n (by omega) wr h1 (giv_iff.1 h2) hE
    · exact law15_Mends_err v l hs bend bb more bm n (by omega) wr h1 (giv_iff.1 h2) hE
end Go.Proofs.Ytgpgfmemnhgmbaa
