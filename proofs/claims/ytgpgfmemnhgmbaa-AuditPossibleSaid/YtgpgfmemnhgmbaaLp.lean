/- AuditPossible walked. -/
import Derived.Test.YtgpgfmemnhgmbaaProg
import Derived.Test.YtgpgfmemnhgmbaaLay
import Derived.Test.YtgpgfmemnhgmbaaRegion
import Derived.Test.YtgpgfmemnhgmbaaMix
import Derived.WalkKit
import Derived.WalkSpells
import Derived.WalkLawsBesides
import Derived.Lib.Hide
import Derived.BigQuiet
import Derived.Test.YtgpgfmemnhgmbaaPlain
import Derived.Test.YtgpgfmemnhgmbaaAngle
import Derived.Test.YtgpgfmemnhgmbaaAud13
import Derived.Test.YtgpgfmemnhgmbaaRe3
namespace Go.Proofs.Ytgpgfmemnhgmbaa
open Go.RowKit

set_option maxHeartbeats 1000000 in
set_option maxRecDepth 100000 in
theorem law15_Possible (v : Value) (l : List Int) {w : World} (hs : Sl w v l) (bend : Int) (_ : (Lit.int .i64 bend).wf = true) (wr : Bool) :
    Calls Try.prog 4 #[v, .int .i64 bend, .bool wr] w fun e w' => e = .returned (.bool true) ∧ ∃ d, w' = bw w d := by
  have HS := Lib.hid hs
  have HM := Lib.hid (fun W (h : Sl W v l) => law15_many v l W h)
  have HP := Lib.hid (fun W (h : Sl W v l) => aud_Possible v l wr bend W h)
  have HQ := Lib.hid (fun W (h : Sl W v l) => re_Possible v l wr bend W h)
  obtain ⟨a, cap, hv, -⟩ := hs
  subst hv
  generalize posB wr l bend = A at *
  generalize posK wr l bend = B at *
  generalize gvE wr l bend = C at *
  cases hm : manyB l.length
  · rw [hm] at HM
    clear hm
    generalize l.length = m at *
    refine lay_start ?_
    go_enter Try.func4, Try.ntmps4
    go_wp2_with (first | (go_at_call 10; refine (law15_awake _).mono ?_; rintro e w' ⟨rfl, d, rfl⟩) | (go_at_call 11; refine (HM.out _ (HS.out.lay _)).mono ?_; rintro e w' ⟨rfl, rfl⟩) | (go_at_call 16; refine (HP.out _ (HS.out.lay _)).mono ?_; rintro e w' ⟨rfl, d, rfl⟩) | (go_at_call 17; refine (HQ.out _ (HS.out.lay _)).mono ?_; rintro e w' ⟨rfl, d, rfl⟩))
    go_ret
    exact ⟨rfl, lay_ex _ _⟩
  · rw [hm] at HM
    clear hm
    generalize l.length = m at *
    refine lay_start ?_
    go_enter Try.func4, Try.ntmps4
    go_wp2_with (first | (go_at_call 10; refine (law15_awake _).mono ?_; rintro e w' ⟨rfl, d, rfl⟩) | (go_at_call 11; refine (HM.out _ (HS.out.lay _)).mono ?_; rintro e w' ⟨rfl, rfl⟩))
    go_ret
    exact ⟨rfl, lay_ex _ _⟩
end Go.Proofs.Ytgpgfmemnhgmbaa
