/- AuditDifferences walked. -/
import Derived.Test.YtgpgfmemnhgmbaaProg
import Derived.Test.YtgpgfmemnhgmbaaLay
import Derived.Test.YtgpgfmemnhgmbaaRegion
import Derived.Test.YtgpgfmemnhgmbaaMix
import Derived.WalkKit
import Derived.WalkSpells
import Derived.WalkLawsBesides
import Derived.Lib.Hide
import Derived.BigQuiet
import Derived.Test.YtgpgfmemnhgmbaaPlain
import Derived.Test.YtgpgfmemnhgmbaaAngle
import Derived.Test.YtgpgfmemnhgmbaaAud13
import Derived.Test.YtgpgfmemnhgmbaaRe2
namespace Go.Proofs.Ytgpgfmemnhgmbaa
open Go.RowKit

set_option maxHeartbeats 1000000 in
set_option maxRecDepth 100000 in
theorem law15_Differences (v : Value) (l : List Int) {w : World} (hs : Sl w v l) (order : Int) (_ : (Lit.int .i64 order).wf = true) (wr : Bool) :
    Calls Try.prog 3 #[v, .int .i64 order, .bool wr] w fun e w' => e = .returned (.bool true) ∧ ∃ d, w' = bw w d := by
  have HS := Lib.hid hs
  have HM := Lib.hid (fun W (h : Sl W v l) => law15_many v l W h)
  have HD := Lib.hid (fun W (h : Sl W v l) => aud_Diff v l wr order W h)
  have HG := Lib.hid (fun W (h : Sl W v l) => re_Given v l wr W h)
  obtain ⟨a, cap, hv, -⟩ := hs
  subst hv
  cases hm : manyB l.length
  · rw [hm] at HM
    by_cases h0 : givE wr l = 0
    · by_cases ho : 0 ≤ order ∧ order ≤ 5
      · have hE : difE wr l order = 0 := by unfold difE; rw [if_pos h0, if_pos ho]
        have hL : dfL wr l order = difL wr l order.toNat := by unfold dfL; rw [if_pos hE]
        obtain ⟨k, rfl⟩ := Int.eq_ofNat_of_zero_le ho.1
        rw [Int.toNat_natCast] at hL
        have HRD := Lib.hid (fun W (h : Sl W (.slice a l.length cap) l) => re_Differences _ l wr k W h (giv_iff.1 h0) (by omega))
        rw [hE, hL] at HD
        rw [h0] at HG
        have t1 : decide ((k : Int) < 0) = false := decide_eq_false (by omega)
        have t2 : decide ((5 : Int) < (k : Int)) = false := decide_eq_false (by omega)
        clear hE hL h0 hm
        generalize difL wr l k = R at *
        generalize l.length = m at *
        refine lay_start ?_
        go_enter Try.func3, Try.ntmps3
        go_wp2_with (first | (go_at_call 10; refine (law15_awake _).mono ?_; rintro e w' ⟨rfl, d, rfl⟩) | (go_at_call 11; refine (HM.out _ (HS.out.lay _)).mono ?_; rintro e w' ⟨rfl, rfl⟩))
        refine (HD.out _ (HS.out.lay _)).mono ?_
        rintro e w' ⟨v1, d1, rfl, rfl, h1⟩
        rw [lay_bw] at h1 ⊢
        have H1 := Lib.hid h1
        clear h1
        go_wp2_with (go_at_call 13; refine (HG.out _ (HS.out.lay _)).mono ?_; rintro e w' ⟨rfl, rfl⟩)
        refine (HRD.out _ (HS.out.lay _)).mono ?_
        rintro e w' ⟨v2, d2, rfl, rfl, h2⟩
        rw [lay_bw] at h2 ⊢
        have H2 := Lib.hid h2
        clear h2
        go_wp2_with fail
        refine (sl_EqualT _ _ R _ (sl_on (A := [_]) H1.out.sl) H2.out.sl).mono ?_
        rintro e w' ⟨rfl, d3, rfl⟩
        rw [lay_bw]
        go_wp2
        go_ret
        exact ⟨rfl, lay_ex _ _⟩
      · have hE : difE wr l order = 2 := by unfold difE; rw [if_pos h0, if_neg ho]
        have hL : dfL wr l order = [] := by unfold dfL; rw [if_neg (by rw [hE]; decide)]
        rw [hE, hL] at HD
        rw [h0] at HG
        clear hE hL h0 hm
        generalize l.length = m at *
        by_cases h1 : order < 0
        · have t1 : decide (order < 0) = true := decide_eq_true h1
          refine lay_start ?_
          go_enter Try.func3, Try.ntmps3
          go_wp2_with (first | (go_at_call 10; refine (law15_awake _).mono ?_; rintro e w' ⟨rfl, d, rfl⟩) | (go_at_call 11; refine (HM.out _ (HS.out.lay _)).mono ?_; rintro e w' ⟨rfl, rfl⟩))
          refine (HD.out _ (HS.out.lay _)).mono ?_
          rintro e w' ⟨v1, d1, rfl, rfl, h1⟩
          obtain ⟨a1, c1, rfl⟩ := h1.form
          rw [lay_bw]
          clear h1
          go_wp2_with (go_at_call 13; refine (HG.out _ (HS.out.lay _)).mono ?_; rintro e w' ⟨rfl, rfl⟩)
          go_ret
          exact ⟨rfl, lay_ex _ _⟩
        · have t1 : decide (order < 0) = false := decide_eq_false h1
          have t2 : decide (5 < order) = true := decide_eq_true (by omega)
          refine lay_start ?_
          go_enter Try.func3, Try.ntmps3
          go_wp2_with (first | (go_at_call 10; refine (law15_awake _).mono ?_; rintro e w' ⟨rfl, d, rfl⟩) | (go_at_call 11; refine (HM.out _ (HS.out.lay _)).mono ?_; rintro e w' ⟨rfl, rfl⟩))
          refine (HD.out _ (HS.out.lay _)).mono ?_
          rintro e w' ⟨v1, d1, rfl, rfl, h1⟩
          obtain ⟨a1, c1, rfl⟩ := h1.form
          rw [lay_bw]
          clear h1
          go_wp2_with (go_at_call 13; refine (HG.out _ (HS.out.lay _)).mono ?_; rintro e w' ⟨rfl, rfl⟩)
          go_ret
          exact ⟨rfl, lay_ex _ _⟩
    · have hE : difE wr l order = givE wr l := by unfold difE; rw [if_neg h0]
      have hL : dfL wr l order = [] := by unfold dfL; rw [if_neg (by rw [hE]; exact h0)]
      rw [hE, hL] at HD
      have t1 : (givE wr l == 0) = false := beq_eq_false_iff_ne.2 h0
      clear hE hL h0 hm
      generalize givE wr l = E at *
      generalize l.length = m at *
      refine lay_start ?_
      go_enter Try.func3, Try.ntmps3
      go_wp2_with (first | (go_at_call 10; refine (law15_awake _).mono ?_; rintro e w' ⟨rfl, d, rfl⟩) | (go_at_call 11; refine (HM.out _ (HS.out.lay _)).mono ?_; rintro e w' ⟨rfl, rfl⟩))
      refine (HD.out _ (HS.out.lay _)).mono ?_
      rintro e w' ⟨v1, d1, rfl, rfl, h1⟩
      obtain ⟨a1, c1, rfl⟩ := h1.form
      rw [lay_bw]
      clear h1
      go_wp2_with (go_at_call 13; refine (HG.out _ (HS.out.lay _)).mono ?_; rintro e w' ⟨rfl, rfl⟩)
      go_ret
      exact ⟨rfl, lay_ex _ _⟩
  · rw [hm] at HM
    clear hm
    generalize l.length = m at *
    refine lay_start ?_
    go_enter Try.func3, Try.ntmps3
    go_wp2_with (first | (go_at_call 10; refine (law15_awake _).mono ?_; rintro e w' ⟨rfl, d, rfl⟩) | (go_at_call 11; refine (HM.out _ (HS.out.lay _)).mono ?_; rintro e w' ⟨rfl, rfl⟩))
    go_ret
    exact ⟨rfl, lay_ex _ _⟩
end Go.Proofs.Ytgpgfmemnhgmbaa
