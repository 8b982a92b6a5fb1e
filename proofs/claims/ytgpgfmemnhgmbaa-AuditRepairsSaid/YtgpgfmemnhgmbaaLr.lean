/- The reference's Repair; AuditRepairs walked. -/
import Derived.Test.YtgpgfmemnhgmbaaProg
import Derived.Test.YtgpgfmemnhgmbaaLay
import Derived.Test.YtgpgfmemnhgmbaaRegion
import Derived.Test.YtgpgfmemnhgmbaaMix
import Derived.WalkKit
import Derived.WalkSpells
import Derived.WalkLawsBesides
import Derived.Lib.Hide
import Derived.BigQuiet
import Derived.Test.YtgpgfmemnhgmbaaPlain
import Derived.Test.YtgpgfmemnhgmbaaAngle
import Derived.Test.YtgpgfmemnhgmbaaAud13
import Derived.Test.YtgpgfmemnhgmbaaRe8
namespace Go.Proofs.Ytgpgfmemnhgmbaa
open Go.RowKit

def SlE (w : World) (l : List Int) (c : Int) (e : Ending) (w' : World) : Prop := ∃ v d, e = .returned (.tuple #[v, .int .i64 c]) ∧ w' = bw w d ∧ Sl (bw w d) v l
set_option maxHeartbeats 1000000 in
theorem re_Repair (v : Value) (l : List Int) (wr : Bool) (bend at_ : Int) (w : World) (hs : Sl w v l) :
    Calls Try.prog 19 #[v, .int .i64 bend, .int .i64 at_, .bool wr] w (SlE w (rprL wr l bend at_) (rprE wr l bend at_)) := by
  have HG := Lib.hid (fun W (h : Sl W v l) => re_Given v l wr W h)
  have HBe := Lib.hid (fun W => re_Bend bend W)
  have HS := Lib.hid hs
  unfold rprL
  have hE : rprE wr l bend at_ = if gvE wr l bend = 0 then (if 0 ≤ at_ ∧ at_ < l.length then (if repL wr l bend at_.toNat = [] then 12 else if 1000 < (repL wr l bend at_.toNat).length then 4 else 0) else 2) else gvE wr l bend := rfl
  have hV : gvE wr l bend = if givE wr l = 0 then (if 0 ≤ bend ∧ bend ≤ 1000 then 0 else 2) else givE wr l := rfl
  by_cases hg0 : givE wr l = 0
  · rw [if_pos hg0] at hV
    have hg := giv_iff.1 hg0
    rw [hg0] at HG
    by_cases hb0 : 0 ≤ bend ∧ bend ≤ 1000
    · rw [if_pos hb0] at hV
      rw [if_pos hV] at hE
      rw [decide_eq_true hb0] at HBe
      by_cases ha : 0 ≤ at_ ∧ at_ < l.length
      · obtain ⟨k, rfl⟩ := Int.eq_ofNat_of_zero_le ha.1
        have HR := Lib.hid (fun W (h : Sl W v l) => re_Repairs v l wr bend k W h hg hb0.1 hb0.2 (by omega))
        rw [ref_rep hg.n3 hb0.1 (by omega)] at HR
        rw [if_pos ha, Int.toNat_natCast] at hE
        rw [Int.toNat_natCast]
        have t1 : (k : Int) < (l.length : Int) := ha.2
        have t0 : (0 : Int) ≤ (k : Int) := ha.1
        obtain ⟨a, cap, rfl, -⟩ := hs
        clear hg hg0 hV ha
        generalize repL wr l bend k = R at *
        generalize l.length = m at *
        by_cases hz : R = []
        · rw [if_pos hz] at hE
          subst hz
          rw [hE, if_neg (by decide)]
          clear hE
          refine lay_start ?_
          go_enter Try.func19, Try.ntmps19
          go_wp2_with (first | (go_at_call 13; refine (HG.out _ (HS.out.lay [])).mono ?_; rintro e w' ⟨rfl, rfl⟩) | (go_at_call 31; refine (HBe.out _).mono ?_; rintro e w' ⟨rfl, rfl⟩))
          refine (HR.out _ (HS.out.lay [])).mono ?_
          rintro e w2 ⟨vb, db, rfl, rfl, hvb⟩
          have hvs := hvb.sl
          obtain ⟨ba, bc, rfl, -⟩ := id hvs
          rw [lay_bw] at hvs ⊢
          have HV := Lib.hid hvs
          clear hvb hvs
          go_wp2
          exact bodyPost_ret (v := .tuple #[.slice none 0 0, .int .i64 12]) (by simp [results, Try.results19, go_sem]) rfl ⟨_, db, rfl, rfl, Sl.nil _⟩
        · rw [if_neg hz] at hE
          have hpos : 0 < R.length := List.length_pos_iff.2 hz
          have hq : ((R.length : Int) == 0) = false := beq_eq_false_iff_ne.2 (by omega)
          by_cases hb : 1000 < R.length
          · rw [if_pos hb] at hE
            rw [hE, if_neg (by decide)]
            have hd : decide ((1000 : Int) < (R.length : Int)) = true := decide_eq_true (by omega)
            clear hz hE
            refine lay_start ?_
            go_enter Try.func19, Try.ntmps19
            go_wp2_with (first | (go_at_call 13; refine (HG.out _ (HS.out.lay [])).mono ?_; rintro e w' ⟨rfl, rfl⟩) | (go_at_call 31; refine (HBe.out _).mono ?_; rintro e w' ⟨rfl, rfl⟩))
            refine (HR.out _ (HS.out.lay [])).mono ?_
            rintro e w2 ⟨vb, db, rfl, rfl, hvb⟩
            have hvs := hvb.sl
            obtain ⟨ba, bc, rfl, -⟩ := id hvs
            rw [lay_bw] at hvs ⊢
            have HV := Lib.hid hvs
            clear hvb hvs
            generalize R.length = q at *
            go_wp2
            exact bodyPost_ret (v := .tuple #[.slice none 0 0, .int .i64 4]) (by simp [results, Try.results19, go_sem]) rfl ⟨_, db, rfl, rfl, Sl.nil _⟩
          · rw [if_neg hb] at hE
            rw [hE, if_pos rfl]
            have hd : decide ((1000 : Int) < (R.length : Int)) = false := decide_eq_false (by omega)
            clear hz hE
            refine lay_start ?_
            go_enter Try.func19, Try.ntmps19
            go_wp2_with (first | (go_at_call 13; refine (HG.out _ (HS.out.lay [])).mono ?_; rintro e w' ⟨rfl, rfl⟩) | (go_at_call 31; refine (HBe.out _).mono ?_; rintro e w' ⟨rfl, rfl⟩))
            refine (HR.out _ (HS.out.lay [])).mono ?_
            rintro e w2 ⟨vb, db, rfl, rfl, hvb⟩
            have hvs := hvb.sl
            obtain ⟨ba, bc, rfl, -⟩ := id hvs
            rw [lay_bw] at hvs ⊢
            have HV := Lib.hid hvs
            clear hvb hvs
            obtain ⟨q, hqq⟩ : ∃ q, R.length = q := ⟨_, rfl⟩
            rw [hqq] at hq hd HV hpos ⊢
            clear hqq
            go_wp2
            exact bodyPost_ret (v := .tuple #[.slice ba q bc, .int .i64 0]) (by simp [results, Try.results19, go_sem]) rfl ⟨_, db, rfl, rfl, HV.out⟩
      · rw [if_neg ha] at hE
        rw [hE, if_neg (by decide)]
        obtain ⟨a, cap, rfl, -⟩ := hs
        clear hE hg hg0 hV
        generalize l.length = m at *
        by_cases h1 : at_ < 0
        · have t1 : decide (at_ < 0) = true := decide_eq_true h1
          refine lay_start ?_
          go_enter Try.func19, Try.ntmps19
          go_wp2_with (first | (go_at_call 13; refine (HG.out _ (HS.out.lay [])).mono ?_; rintro e w' ⟨rfl, rfl⟩) | (go_at_call 31; refine (HBe.out _).mono ?_; rintro e w' ⟨rfl, rfl⟩))
          obtain ⟨z, hz⟩ := lay_ex w' []
          exact bodyPost_ret (v := .tuple #[.slice none 0 0, .int .i64 2]) (by simp [results, Try.results19, go_sem]) rfl ⟨_, z, rfl, hz, Sl.nil _⟩
        · have t1 : decide (at_ < 0) = false := decide_eq_false h1
          have t2 : (m : Int) ≤ at_ := by omega
          refine lay_start ?_
          go_enter Try.func19, Try.ntmps19
          go_wp2_with (first | (go_at_call 13; refine (HG.out _ (HS.out.lay [])).mono ?_; rintro e w' ⟨rfl, rfl⟩) | (go_at_call 31; refine (HBe.out _).mono ?_; rintro e w' ⟨rfl, rfl⟩))
          obtain ⟨z, hz⟩ := lay_ex w' []
          exact bodyPost_ret (v := .tuple #[.slice none 0 0, .int .i64 2]) (by simp [results, Try.results19, go_sem]) rfl ⟨_, z, rfl, hz, Sl.nil _⟩
    · rw [if_neg hb0] at hV
      rw [if_neg (by rw [hV]; decide), hV] at hE
      rw [hE, if_neg (by decide)]
      rw [decide_eq_false hb0] at HBe
      obtain ⟨a, cap, rfl, -⟩ := hs
      clear hE hg hg0 hV
      generalize l.length = m at *
      refine lay_start ?_
      go_enter Try.func19, Try.ntmps19
      go_wp2_with (first | (go_at_call 13; refine (HG.out _ (HS.out.lay [])).mono ?_; rintro e w' ⟨rfl, rfl⟩) | (go_at_call 31; refine (HBe.out _).mono ?_; rintro e w' ⟨rfl, rfl⟩))
      obtain ⟨z, hz⟩ := lay_ex w' []
      exact bodyPost_ret (v := .tuple #[.slice none 0 0, .int .i64 2]) (by simp [results, Try.results19, go_sem]) rfl ⟨_, z, rfl, hz, Sl.nil _⟩
  · rw [if_neg hg0] at hV
    rw [if_neg (by rw [hV]; exact hg0), hV] at hE
    rw [hE, if_neg hg0]
    obtain ⟨a, cap, rfl, -⟩ := hs
    have t1 : (givE wr l == 0) = false := beq_eq_false_iff_ne.2 hg0
    clear hE hg0 hV
    generalize givE wr l = E at *
    generalize l.length = m at *
    refine lay_start ?_
    go_enter Try.func19, Try.ntmps19
    go_wp2_with (go_at_call 13; refine (HG.out _ (HS.out.lay [])).mono ?_; rintro e w' ⟨rfl, rfl⟩)
    obtain ⟨z, hz⟩ := lay_ex w' []
    exact bodyPost_ret (v := .tuple #[.slice none 0 0, .int .i64 E]) (by simp [results, Try.results19, go_sem]) rfl ⟨_, z, rfl, hz, Sl.nil _⟩
set_option maxHeartbeats 1000000 in
set_option maxRecDepth 100000 in
theorem law15_Repairs (v : Value) (l : List Int) {w : World} (hs : Sl w v l) (bend : Int) (_ : (Lit.int .i64 bend).wf = true) (at_ : Int) (_ : (Lit.int .i64 at_).wf = true) (wr : Bool) :
    Calls Try.prog 5 #[v, .int .i64 bend, .int .i64 at_, .bool wr] w fun e w' => e = .returned (.bool true) ∧ ∃ d, w' = bw w d := by
  have HS := Lib.hid hs
  have HM := Lib.hid (fun W (h : Sl W v l) => law15_many v l W h)
  have HP := Lib.hid (fun W (h : Sl W v l) => aud_Repair v l wr bend at_ W h)
  have HQ := Lib.hid (fun W (h : Sl W v l) => re_Repair v l wr bend at_ W h)
  obtain ⟨a, cap, hv, -⟩ := hs
  subst hv
  generalize rprL wr l bend at_ = R at *
  generalize rprE wr l bend at_ = C at *
  cases hm : manyB l.length
  · rw [hm] at HM
    clear hm
    generalize l.length = m at *
    refine lay_start ?_
    go_enter Try.func5, Try.ntmps5
    go_wp2_with (first | (go_at_call 10; refine (law15_awake _).mono ?_; rintro e w' ⟨rfl, d, rfl⟩) | (go_at_call 11; refine (HM.out _ (HS.out.lay _)).mono ?_; rintro e w' ⟨rfl, rfl⟩))
    refine (HP.out _ (HS.out.lay _)).mono ?_
    rintro e w' ⟨v1, d1, rfl, rfl, h1⟩
    rw [lay_bw] at h1 ⊢
    have H1 := Lib.hid h1
    clear h1
    go_wp2_with fail
    refine (HQ.out _ (HS.out.lay _)).mono ?_
    rintro e w' ⟨v2, d2, rfl, rfl, h2⟩
    rw [lay_bw] at h2 ⊢
    have H2 := Lib.hid h2
    clear h2
    go_wp2_with fail
    refine (sl_EqualT _ _ R _ (sl_on (A := [_]) H1.out.sl) H2.out).mono ?_
    rintro e w' ⟨rfl, d3, rfl⟩
    rw [lay_bw]
    go_wp2
    go_ret
    exact ⟨rfl, lay_ex _ _⟩
  · rw [hm] at HM
    clear hm
    generalize l.length = m at *
    refine lay_start ?_
    go_enter Try.func5, Try.ntmps5
    go_wp2_with (first | (go_at_call 10; refine (law15_awake _).mono ?_; rintro e w' ⟨rfl, d, rfl⟩) | (go_at_call 11; refine (HM.out _ (HS.out.lay _)).mono ?_; rintro e w' ⟨rfl, rfl⟩))
    go_ret
    exact ⟨rfl, lay_ex _ _⟩
end Go.Proofs.Ytgpgfmemnhgmbaa
