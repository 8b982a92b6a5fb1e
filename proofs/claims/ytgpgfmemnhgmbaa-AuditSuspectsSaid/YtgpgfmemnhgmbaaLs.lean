/- AuditSuspects walked. -/
import Derived.Test.YtgpgfmemnhgmbaaProg
import Derived.Test.YtgpgfmemnhgmbaaLay
import Derived.Test.YtgpgfmemnhgmbaaRegion
import Derived.Test.YtgpgfmemnhgmbaaMix
import Derived.WalkKit
import Derived.WalkSpells
import Derived.WalkLawsBesides
import Derived.Lib.Hide
import Derived.BigQuiet
import Derived.Test.YtgpgfmemnhgmbaaPlain
import Derived.Test.YtgpgfmemnhgmbaaAngle
import Derived.Test.YtgpgfmemnhgmbaaAud13
import Derived.Test.YtgpgfmemnhgmbaaAud14
import Derived.Test.YtgpgfmemnhgmbaaRe10
namespace Go.Proofs.Ytgpgfmemnhgmbaa
open Go.RowKit

set_option maxHeartbeats 4000000 in
set_option maxRecDepth 100000 in
theorem law15_Suspects (v : Value) (t : TrsV) {w : World} (ht : Trs w v t) :
    Calls Try.prog 8 #[v] w fun e w' => e = .returned (.bool true) ∧ ∃ d, w' = bw w d := by
  obtain ⟨vg, vd, rfl, -, hg, hd, -, -, -⟩ := ht
  obtain ⟨s, g, d, p, q, r⟩ := t
  dsimp only at hg hd ⊢
  have HG := Lib.hid hg
  have HD := Lib.hid hd
  have HM1 := Lib.hid (fun W (h : Sl W vg g) => law15_many vg g W h)
  have HM2 := Lib.hid (fun W (h : Sl W vd d) => law15_many vd d W h)
  have HP := Lib.hid (fun W (h1 : Sl W vg g) (h2 : Sl W vd d) => aud_Suspects s vg vd g d p q r W h1 h2)
  have HQ := Lib.hid (fun W (h1 : Sl W vg g) (h2 : Sl W vd d) => re_Suspects s vg vd g d p q r W h1 h2)
  obtain ⟨a1, c1, hv1, -⟩ := hg
  obtain ⟨a2, c2, hv2, -⟩ := hd
  subst hv1 hv2
  generalize susG g d r = R1 at *
  generalize susD g d r = R2 at *
  generalize susE g d r = C at *
  generalize manyB g.length = m1 at *
  generalize manyB d.length = m2 at *
  generalize g.length = n1 at *
  generalize d.length = n2 at *
  cases m1
  · cases m2
    · refine lay_start ?_
      go_enter Try.func8, Try.ntmps8
      go_wp2_with (first | (go_at_call 10; refine (law15_awake _).mono ?_; rintro e w' ⟨rfl, d, rfl⟩) | (go_at_call 11; first | (with_reducible refine (HM1.out _ (HG.out.lay _)).mono ?_; rintro e w' ⟨rfl, rfl⟩) | (with_reducible refine (HM2.out _ (HD.out.lay _)).mono ?_; rintro e w' ⟨rfl, rfl⟩)))
      refine (HP.out _ (HG.out.lay _) (HD.out.lay _)).mono ?_
      rintro e w' ⟨v1, v2, d1, rfl, rfl, h1, h2⟩
      rw [lay_bw] at h1 h2 ⊢
      have H1 := Lib.hid h1
      have H2 := Lib.hid h2
      clear h1 h2
      go_wp2_with fail
      refine (HQ.out _ (HG.out.lay _) (HD.out.lay _)).mono ?_
      rintro e w' ⟨v3, v4, d2, rfl, rfl, h3, h4⟩
      rw [lay_bw] at h3 h4 ⊢
      have H3 := Lib.hid h3
      have H4 := Lib.hid h4
      clear h3 h4
      go_wp2_with fail
      refine (sl_EqualT _ _ R1 _ (sl_on (A := [_]) H1.out) H3.out).mono ?_
      rintro e w' ⟨rfl, d3, rfl⟩
      rw [lay_bw]
      go_wp2_with fail
      refine (sl_EqualT _ _ R2 _ (sl_on (A := [_, _]) H2.out) (sl_on (A := [_]) H4.out)).mono ?_
      rintro e w' ⟨rfl, d4, rfl⟩
      rw [lay_bw]
      go_wp2
      go_ret
      exact ⟨rfl, lay_ex _ _⟩
    · refine lay_start ?_
      go_enter Try.func8, Try.ntmps8
      go_wp2_with (first | (go_at_call 10; refine (law15_awake _).mono ?_; rintro e w' ⟨rfl, d, rfl⟩) | (go_at_call 11; first | (with_reducible refine (HM1.out _ (HG.out.lay _)).mono ?_; rintro e w' ⟨rfl, rfl⟩) | (with_reducible refine (HM2.out _ (HD.out.lay _)).mono ?_; rintro e w' ⟨rfl, rfl⟩)))
      go_ret
      exact ⟨rfl, lay_ex _ _⟩
  · refine lay_start ?_
    go_enter Try.func8, Try.ntmps8
    go_wp2_with (first | (go_at_call 10; refine (law15_awake _).mono ?_; rintro e w' ⟨rfl, d, rfl⟩) | (go_at_call 11; first | (with_reducible refine (HM1.out _ (HG.out.lay _)).mono ?_; rintro e w' ⟨rfl, rfl⟩) | (with_reducible refine (HM2.out _ (HD.out.lay _)).mono ?_; rintro e w' ⟨rfl, rfl⟩)))
    go_ret
    exact ⟨rfl, lay_ex _ _⟩
end Go.Proofs.Ytgpgfmemnhgmbaa
