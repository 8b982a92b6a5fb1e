/- The reference's Suspect. -/
import Derived.Test.YtgpgfmemnhgmbaaProg
import Derived.Test.YtgpgfmemnhgmbaaLay
import Derived.Test.YtgpgfmemnhgmbaaRegion
import Derived.Test.YtgpgfmemnhgmbaaMix
import Derived.WalkKit
import Derived.WalkSpells
import Derived.WalkLawsBesides
import Derived.Lib.Hide
import Derived.BigQuiet
import Derived.Test.YtgpgfmemnhgmbaaPlain
import Derived.Test.YtgpgfmemnhgmbaaAngle
import Derived.Test.YtgpgfmemnhgmbaaRe8
namespace Go.Proofs.Ytgpgfmemnhgmbaa
open Go.RowKit

theorem asc_reps (wr : Bool) (l : List Int) (bend : Int) (lo hi : Nat) : Asc (reps wr l bend lo hi) := by
  unfold reps Asc
  rw [List.pairwise_map]
  refine List.Pairwise.filter _ ?_
  exact (List.pairwise_lt_range' (s := lo) (n := hi - lo)).imp fun h => by simpa using h
theorem reps_all {wr : Bool} {l : List Int} {bend : Int} (hB : badL wr l bend 1 (l.length - 1) ≠ []) : reps wr l bend (susLo (badL wr l bend 1 (l.length - 1))) (susHi (badL wr l bend 1 (l.length - 1)) l.length) = reps wr l bend 0 l.length := by
  have hpos : 0 < (badL wr l bend 1 (l.length - 1)).length := List.length_pos_iff.2 hB
  have h0 := bad_at (i := 0) hpos
  have h1 := bad_at (i := (badL wr l bend 1 (l.length - 1)).length - 1) (show _ < (badL wr l bend 1 (l.length - 1)).length by omega)
  refine asc_eq (asc_reps _ _ _ _ _) (asc_reps _ _ _ _ _) fun x => ?_
  rw [mem_reps, mem_reps]
  constructor
  · rintro ⟨i, e, h2, h3, h4⟩
    refine ⟨i, e, Nat.zero_le _, ?_, h4⟩
    unfold susHi at h3; omega
  · rintro ⟨i, e, _, h3, h4⟩
    refine ⟨i, e, ?_, ?_, h4⟩
    · have hf : farB i (nth (badL wr l bend 1 (l.length - 1)) ((badL wr l bend 1 (l.length - 1)).length - 1)) = false := by
        cases hc : farB i (nth (badL wr l bend 1 (l.length - 1)) ((badL wr l bend 1 (l.length - 1)).length - 1))
        · rfl
        · refine absurd ?_ h4
          unfold repL
          rw [if_pos (any_yes (by omega) hc)]
      unfold farB at hf
      simp at hf
      unfold susLo; omega
    · have hf : farB i (nth (badL wr l bend 1 (l.length - 1)) 0) = false := by
        cases hc : farB i (nth (badL wr l bend 1 (l.length - 1)) 0)
        · rfl
        · refine absurd ?_ h4
          unfold repL
          rw [if_pos (any_yes hpos hc)]
      unfold farB at hf
      simp at hf
      unfold susHi; omega
theorem sus_all (wr : Bool) (l : List Int) (bend : Int) : susL wr l bend = if badL wr l bend 1 (l.length - 1) = [] then [] else sus2 wr l bend 0 l.length (badL wr l bend 1 (l.length - 1)) := by
  unfold susL
  by_cases h : badL wr l bend 1 (l.length - 1) = []
  · rw [if_pos h, if_pos h]
  · rw [if_neg h, if_neg h]
    unfold sus2
    rw [reps_all h]
set_option maxHeartbeats 1000000 in
set_option maxRecDepth 100000 in
theorem re_Suspect (v : Value) (l : List Int) (wr : Bool) (bend : Int) (w : World) (hs : Sl w v l) (hg : Giv wr l) (b0 : 0 ≤ bend) (b1 : bend ≤ 1000) :
    Calls Try.prog 37 #[v, .int .i64 bend, .bool wr] w (SlR w (susL wr l bend)) := by
  have hn := hg.n1000
  have hn3 := hg.n3
  have HCe := Lib.hid (fun W (h : Sl W v l) => re_Centres v l wr bend W h hg b0 b1)
  have HRp := Lib.hid (fun W (k : Nat) (hk : k < l.length) (h : Sl W v l) => (ref_rep (wr := wr) (bend := bend) hn3 b0 hk) ▸ re_Repairs v l wr bend k W h hg b0 b1 hk)
  have HS := Lib.hid hs
  obtain ⟨b, o, cap, rfl, hc, -, hb, hr⟩ := hs.open (by omega)
  rw [sus_all]
  obtain ⟨m, hm⟩ : ∃ m, l.length = m := ⟨_, rfl⟩
  rw [hm] at HCe HRp HS hn hn3 hc ⊢
  clear hr hs hg hm
  generalize badL wr l bend 1 (m - 1) = B at *
  by_cases hz : B = []
  · subst hz
    rw [if_pos rfl]
    refine lay_start ?_
    go_enter Try.func37, Try.ntmps37
    go_wp2_with fail
    refine (HCe.out _ (HS.out.lay _)).mono ?_
    rintro e w' ⟨vb, db, rfl, rfl, hvb⟩
    obtain ⟨ba, bc, rfl⟩ := hvb.form
    rw [lay_bw]
    clear hvb
    go_wp2
    go_ret
    exact ⟨_, db, rfl, rfl, Sl.nil _⟩
  · rw [if_neg hz]
    have hpos : 0 < B.length := List.length_pos_iff.2 hz
    obtain ⟨q, hq⟩ : ∃ q, B.length = q := ⟨_, rfl⟩
    have HQ := Lib.hid hq
    rw [hq] at hpos
    have hz1 : ((q : Int) == 0) = false := beq_eq_false_iff_ne.2 (by omega)
    have HSU : Hid (sus2 wr l bend 0 m B = if reps wr l bend 0 m = [] then B else reps wr l bend 0 m) := Lib.hid rfl
    clear hq hz
    refine lay_start ?_
    go_enter Try.func37, Try.ntmps37
    go_wp2_with fail
    refine (HCe.out _ (HS.out.lay _)).mono ?_
    rintro e w' ⟨vb, db, rfl, rfl, hvb⟩
    obtain ⟨ba, bc, rfl⟩ := hvb.form
    rw [HQ.out] at hvb ⊢
    rw [lay_bw] at hvb ⊢
    have HVB := Lib.hid hvb
    clear hvb
    go_wp2_with fail
    go_loopw [8, 9] (fun v8 v9 wr' => ∃ (k : Nat) (dd : Ext), k ≤ m ∧ v9 = .int .i64 (k : Int) ∧ wr' = lay w [.inr dd, .inr db] ∧ Ow (lay w [.inr dd, .inr db]) (lay w [.inr db]).heap.size v8 (reps wr l bend 0 k)) (fun _ v9 _ => m - (intOf v9).toNat)
    case atStart => exact ⟨0, noExt _, Nat.zero_le _, rfl, (bw_noExt _).symm, by rw [reps_self _ _ _ _ _ (Nat.le_refl _)]; exact Ow.nil _ _⟩
    case round =>
      obtain ⟨k, dd, hk, rfl, rfl, hO⟩ := hrel
      by_cases hlt : k < m
      · have hst := reps_step wr l bend 0 k (Nat.zero_le _)
        have hrl := reps_len wr l bend 0 k
        have HR := Lib.hid (fun W h => HRp.out W k hlt h)
        have x1 : (k : Int) < (m : Int) := by omega
        have HO := Lib.hid hO
        clear hO
        generalize reps wr l bend 0 k = R at *
        generalize repL wr l bend k = RL at *
        go_wp2_with fail
        refine (HR.out _ (HS.out.lay _)).mono ?_
        rintro e w' ⟨vr, dr, rfl, rfl, hvr⟩
        obtain ⟨ra, rc, rfl, -⟩ := hvr.sl
        rw [lay_bw]
        clear hvr
        by_cases hRL : RL = []
        · subst hRL
          have HST : Hid (reps wr l bend 0 (k + 1) = R) := Lib.hid (by rw [hst]; simp)
          clear hst
          go_wp2_with fail
          go_roundw
          case rel => exact ⟨k + 1, _, hlt, by go_num, Classical.choose_spec (lay_fold w [_, _] [.inr db]), by rw [← Classical.choose_spec (lay_fold w [_, _] [.inr db]), HST.out]; exact ow_on (A := [_]) HO.out⟩
          case measure => simp [intOf]; omega
        · have HST : Hid (reps wr l bend 0 (k + 1) = R ++ [(k : Int)]) := Lib.hid (by rw [hst, if_neg hRL])
          have hz2 : 0 < RL.length := List.length_pos_iff.2 hRL
          have hz3 : decide ((0 : Int) < (RL.length : Int)) = true := decide_eq_true (by omega)
          clear hst hRL
          generalize RL.length = rl at *
          go_wp2_with (at_builtin; refine push_int rfl _ _ rfl (lay w [.inr db]) _ ((k : Int)) 3 _ _ _ ?_ (ow_on (A := [_, _]) HO.out) ?_ rfl rfl (by omega) (lit_nat (by omega)) ?_; exact lay_below (A := [_, _, _]); exact lay_get w _ 0 _ rfl; intro v' d' hv')
          go_roundw
          case rel => exact ⟨k + 1, d', hlt, by go_num, rfl, by rw [HST.out]; exact hv'⟩
          case measure => simp [intOf]; omega
      · obtain rfl : k = m := by omega
        have x1 : (k : Int) ≤ (k : Int) := Int.le_refl _
        generalize reps wr l bend 0 k = R at *
        obtain ⟨oa, oc, rfl⟩ := hO.form
        have HO := Lib.hid hO
        clear hO
        by_cases hR : R = []
        · have HSU : Hid (sus2 wr l bend 0 k B = B) := Lib.hid (by rw [HSU.out, if_pos hR])
          subst hR
          go_wp2
          go_ret
          obtain ⟨z, hz⟩ := lay_ex w [.inr dd, .inr db]
          have h := ow_on (A := [.inr dd]) (B := [.inr db]) HVB.out
          exact ⟨_, z, rfl, hz, by rw [← hz, HSU.out]; exact h.sl⟩
        · have HSU : Hid (sus2 wr l bend 0 k B = R) := Lib.hid (by rw [HSU.out, if_neg hR])
          have hz2 : 0 < R.length := List.length_pos_iff.2 hR
          have hz3 : ((R.length : Int) == 0) = false := beq_eq_false_iff_ne.2 (by omega)
          obtain ⟨rl, hrl⟩ : ∃ rl, R.length = rl := ⟨_, rfl⟩
          rw [hrl] at hz2 hz3 HO ⊢
          clear hrl hR
          go_wp2
          go_ret
          obtain ⟨z, hz⟩ := lay_ex w [.inr dd, .inr db]
          exact ⟨_, z, rfl, hz, by rw [← hz, HSU.out]; exact HO.out.sl⟩
end Go.Proofs.Ytgpgfmemnhgmbaa
