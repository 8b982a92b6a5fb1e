/- audit: suspects. -/
import Derived.Test.YtgpgfmemnhgmbaaProg
import Derived.Test.YtgpgfmemnhgmbaaLay
import Derived.Test.YtgpgfmemnhgmbaaRegion
import Derived.Test.YtgpgfmemnhgmbaaMix
import Derived.WalkKit
import Derived.WalkSpells
import Derived.WalkLawsBesides
import Derived.Lib.Hide
import Derived.BigQuiet
import Derived.Test.YtgpgfmemnhgmbaaPlain
import Derived.Test.YtgpgfmemnhgmbaaAngle
import Derived.Test.YtgpgfmemnhgmbaaAud8
namespace Go.Proofs.Ytgpgfmemnhgmbaa
open Go.RowKit

/-- The indexes from one up to before another one at which there are repairs. -/
def reps (wr : Bool) (l : List Int) (bend : Int) (lo hi : Nat) : List Int := ((List.range' lo (hi - lo)).filter fun i => !(repL wr l bend i).isEmpty).map Int.ofNat
theorem reps_self (wr : Bool) (l : List Int) (bend : Int) (lo hi : Nat) (h : hi ≤ lo) : reps wr l bend lo hi = [] := by unfold reps; rw [show hi - lo = 0 by omega]; rfl
theorem reps_step (wr : Bool) (l : List Int) (bend : Int) (lo k : Nat) (h : lo ≤ k) : reps wr l bend lo (k + 1) = reps wr l bend lo k ++ if repL wr l bend k = [] then [] else [(k : Int)] := by
  unfold reps
  rw [show k + 1 - lo = (k - lo) + 1 by omega, List.range'_concat, List.filter_append, List.map_append]
  congr 1
  rw [show lo + 1 * (k - lo) = k by omega]
  by_cases e : repL wr l bend k = []
  · simp [e]
  · have : (repL wr l bend k).isEmpty = false := by simpa using e
    simp [this, e]
theorem reps_len (wr : Bool) (l : List Int) (bend : Int) (lo hi : Nat) : (reps wr l bend lo hi).length ≤ hi - lo := by
  unfold reps; rw [List.length_map]; exact Nat.le_trans (List.length_filter_le _ _) (by simp)
theorem mem_reps {wr : Bool} {l : List Int} {bend : Int} {lo hi : Nat} {x : Int} : x ∈ reps wr l bend lo hi ↔ ∃ i : Nat, x = i ∧ lo ≤ i ∧ i < hi ∧ repL wr l bend i ≠ [] := by
  unfold reps
  rw [List.mem_map]
  constructor
  · rintro ⟨i, h, rfl⟩
    obtain ⟨h1, h2⟩ := List.mem_filter.1 h
    rw [List.mem_range'_1] at h1
    exact ⟨i, rfl, h1.1, by omega, by simpa using h2⟩
  · rintro ⟨i, rfl, h1, h2, h3⟩
    exact ⟨i, List.mem_filter.2 ⟨List.mem_range'_1.2 ⟨h1, by omega⟩, by simpa using h3⟩, rfl⟩
def susLo (B : List Int) : Nat := (nth B (B.length - 1) - 1).toNat
def susHi (B : List Int) (n : Nat) : Nat := (min ((n : Int) - 1) (nth B 0 + 1)).toNat + 1
def sus2 (wr : Bool) (l : List Int) (bend : Int) (lo hi : Nat) (B : List Int) : List Int := if reps wr l bend lo hi = [] then B else reps wr l bend lo hi
/-- What suspects returns. -/
def susL (wr : Bool) (l : List Int) (bend : Int) : List Int :=
  if badL wr l bend 1 (l.length - 1) = [] then [] else
  sus2 wr l bend (susLo (badL wr l bend 1 (l.length - 1))) (susHi (badL wr l bend 1 (l.length - 1)) l.length) (badL wr l bend 1 (l.length - 1))
theorem bad_at {wr : Bool} {l : List Int} {bend : Int} {lo hi i : Nat} (h : i < (badL wr l bend lo hi).length) : (lo : Int) ≤ nth (badL wr l bend lo hi) i ∧ nth (badL wr l bend lo hi) i < hi := by
  obtain ⟨j, e, h1, h2, -⟩ := mem_badL.1 (nth_mem h)
  rw [e]; omega
set_option maxHeartbeats 2000000 in
set_option maxRecDepth 100000 in
theorem aud_suspects (v : Value) (l : List Int) (wr : Bool) (bend : Int) (w : World) (hs : Sl w v l) (hg : Giv wr l) (b0 : 0 ≤ bend) (b1 : bend ≤ 1000) :
    Calls Try.prog 36 #[.agg #[v, .bool wr], .int .i64 bend] w (Rw w (susL wr l bend)) := by
  have hn := hg.n1000
  have hn3 := hg.n3
  have HBad := Lib.hid (fun W (h : Sl W v l) => aud_bad v l wr bend 0 (l.length : Int) 1 (l.length - 1) W h hg b0 b1 (by decide) (by unfold mn; split <;> omega))
  have HRep := Lib.hid (fun W (k : Nat) (hk : k < l.length) (h : Sl W v l) => aud_repairs v l wr bend k W h hg b0 b1 hk)
  have HS := Lib.hid hs
  obtain ⟨b, o, cap, rfl, hc, -, hb, hr⟩ := hs.open (by omega)
  obtain ⟨m, hm⟩ : ∃ m, l.length = m := ⟨_, rfl⟩
  unfold susL
  have hat := fun i => @bad_at wr l bend 1 (m - 1) i
  have hbl := badL_len (wr := wr) (l := l) (bend := bend) (lo := 1) (hi := m - 1)
  rw [hm] at HBad HRep HS hn hn3 hc ⊢
  clear hr hs hg hm
  generalize hB : badL wr l bend 1 (m - 1) = B at *
  clear hB
  by_cases hz : B = []
  · subst hz
    rw [if_pos rfl]
    clear hat hbl
    refine lay_start ?_
    go_enter Try.func36, Try.ntmps36
    go_wp2_with fail
    refine (HBad.out _ (HS.out.lay _)).mono ?_
    rintro e w' ⟨vb, db, rfl, rfl, hvb⟩
    obtain ⟨ba, bc, rfl⟩ := hvb.form
    rw [lay_bw]
    clear hvb
    go_wp2
    go_ret
    obtain ⟨z, hz⟩ := lay_ex w [.inr db, .inl (.cells #[.slice (some ⟨b, o, none⟩) m cap, .bool wr] 57 (0, 0))]
    exact ⟨_, z, rfl, hz, Ow.nil _ _⟩
  · rw [if_neg hz]
    have hpos : 0 < B.length := List.length_pos_iff.2 hz
    have h0 := hat 0 hpos
    have h1 := hat (B.length - 1) (by omega)
    obtain ⟨lo, hlo⟩ : ∃ lo, susLo B = lo := ⟨_, rfl⟩
    obtain ⟨hi, hhi⟩ : ∃ hi, susHi B m = hi := ⟨_, rfl⟩
    have hmx : mx 0 (nth B (B.length - 1) - 1) = (lo : Int) := by rw [← hlo]; unfold susLo mx; split <;> omega
    have hmn : mn ((m : Int) - 1) (nth B 0 + 1) = (hi : Int) - 1 := by rw [← hhi]; unfold susHi mn; split <;> omega
    have hhm : hi ≤ m := by rw [← hhi]; unfold susHi; omega
    rw [hlo, hhi]
    clear hat hlo hhi hz
    obtain ⟨q, hq⟩ : ∃ q, B.length = q := ⟨_, rfl⟩
    have HQ := Lib.hid hq
    rw [hq] at hpos hmx h1 hbl
    have hz1 : ((q : Int) == 0) = false := beq_eq_false_iff_ne.2 (by omega)
    have wq : IntKind.i64.wrap ((q : Int) - 1) = (q : Int) - 1 := IntWalk.i64_in _ (by omega)
    have y0 : (0 : Int) ≤ (q : Int) - 1 := by omega
    have y1 : (q : Int) - 1 < (q : Int) := by omega
    have y2 : ((q : Int) - 1).toNat = q - 1 := by omega
    have y3 : (0 : Int) < (q : Int) := by omega
    have wl : IntKind.i64.wrap (nth B (q - 1) - 1) = nth B (q - 1) - 1 := IntWalk.i64_in _ (by omega)
    have wf : IntKind.i64.wrap (nth B 0 + 1) = nth B 0 + 1 := IntWalk.i64_in _ (by omega)
    have wm : IntKind.i64.wrap ((m : Int) - 1) = (m : Int) - 1 := IntWalk.i64_in _ (by omega)
    have y4 : (0 : Int) ≤ (m : Int) - 1 := by omega
    clear hq
    refine lay_start ?_
    go_enter Try.func36, Try.ntmps36
    go_wp2_with fail
    refine (HBad.out _ (HS.out.lay _)).mono ?_
    rintro e w' ⟨vb, db, rfl, rfl, hvb⟩
    obtain ⟨gb, cb, rfl, hgb, hgb2, -⟩ := hvb.form1 (by rw [HQ.out]; omega)
    have kb0 : (lay w [.inr db, .inl (.cells #[.slice (some ⟨b, o, none⟩) m cap, .bool wr] 57 (0, 0))]).cell? ⟨gb, 0, none⟩ = some (.int .i64 (nth B 0)) := hvb.cell (by rw [HQ.out]; omega)
    have kb1 : (lay w [.inr db, .inl (.cells #[.slice (some ⟨b, o, none⟩) m cap, .bool wr] 57 (0, 0))]).cell? ⟨gb, q - 1, none⟩ = some (.int .i64 (nth B (q - 1))) := hvb.cell (by rw [HQ.out]; omega)
    have kb2 : ∀ d, (lay w [.inr d, .inr db, .inl (.cells #[.slice (some ⟨b, o, none⟩) m cap, .bool wr] 57 (0, 0))]).cell? ⟨gb, 0, none⟩ = some (.int .i64 (nth B 0)) := fun d => (hvb.bw d).cell (by rw [HQ.out]; omega)
    have kb3 : ∀ d1 d2, (lay w [.inr d1, .inr d2, .inr db, .inl (.cells #[.slice (some ⟨b, o, none⟩) m cap, .bool wr] 57 (0, 0))]).cell? ⟨gb, 0, none⟩ = some (.int .i64 (nth B 0)) := fun d1 d2 => ((hvb.bw d2).bw d1).cell (by rw [HQ.out]; omega)
    rw [lay_bw] at hvb
    rw [lay_bw, HQ.out] 
    have HVB := Lib.hid hvb
    clear hvb hgb
    generalize nth B (q - 1) = LB at *
    generalize nth B 0 = FB at *
    go_wp2_with fail
    go_loopw [6, 7] (fun v6 v7 wr' => ∃ (k : Nat) (d : Ext), lo ≤ k ∧ (k ≤ hi ∨ k = lo) ∧ v7 = .int .i64 (k : Int) ∧ wr' = lay w [.inr d, .inr db, .inl (.cells #[.slice (some ⟨b, o, none⟩) m cap, .bool wr] 57 (0, 0))] ∧
      Ow (lay w [.inr d, .inr db, .inl (.cells #[.slice (some ⟨b, o, none⟩) m cap, .bool wr] 57 (0, 0))]) (lay w [.inr db, .inl (.cells #[.slice (some ⟨b, o, none⟩) m cap, .bool wr] 57 (0, 0))]).heap.size v6 (reps wr l bend lo k)) (fun _ v7 _ => hi - (intOf v7).toNat)
    case atStart => exact ⟨lo, noExt _, Nat.le_refl _, .inr rfl, rfl, (bw_noExt _).symm, by rw [reps_self _ _ _ _ _ (Nat.le_refl _)]; exact Ow.nil _ _⟩
    case round =>
      obtain ⟨k, d1, hk, hk2, rfl, rfl, hO⟩ := hrel
      by_cases hlt : k < hi
      · have hst := reps_step wr l bend lo k hk
        have hrl := reps_len wr l bend lo k
        have hx : decide ((k : Int) ≤ (hi : Int) - 1) = true := decide_eq_true (by omega)
        have HO := Lib.hid hO
        have HR := Lib.hid (fun W h => HRep.out W k (by omega) h)
        clear hO hk2
        generalize reps wr l bend lo k = R at *
        generalize repL wr l bend k = RL at *
        go_wp2_with fail
        refine region_bw (by kernel_rfl) (by kernel_rfl) ?_
        repeat (go_big_quiet_step ((first | fail)))
        refine wpQuiet_nil ?_
        rintro w' ⟨d, rfl⟩
        rw [lay_bw]
        go_wp2_with fail
        refine (HR.out _ (HS.out.lay _)).mono ?_
        rintro e w' ⟨vr, dr, rfl, rfl, hvr⟩
        obtain ⟨ra, rc, rfl⟩ := hvr.form
        rw [lay_bw]
        clear hvr
        by_cases hRL : RL = []
        · subst hRL
          have HST : Hid (reps wr l bend lo (k + 1) = R) := Lib.hid (by rw [hst]; simp)
          clear hst
          go_wp2_with fail
          go_roundw
          case rel => exact ⟨k + 1, _, by omega, .inl (by omega), by go_num, Classical.choose_spec (lay_fold w [_, _, _] [.inr db, .inl (.cells #[.slice (some ⟨b, o, none⟩) m cap, .bool wr] 57 (0, 0))]), by rw [← Classical.choose_spec (lay_fold w [_, _, _] [.inr db, .inl (.cells #[.slice (some ⟨b, o, none⟩) m cap, .bool wr] 57 (0, 0))]), HST.out]; exact ow_on (A := [_, _]) HO.out⟩
          case measure => simp [intOf]; omega
        · have HST : Hid (reps wr l bend lo (k + 1) = R ++ [(k : Int)]) := Lib.hid (by rw [hst, if_neg hRL])
          have hz2 : 0 < RL.length := List.length_pos_iff.2 hRL
          have hz3 : decide ((0 : Int) < (RL.length : Int)) = true := decide_eq_true (by omega)
          clear hst hRL
          generalize RL.length = rl at *
          go_wp2_with (at_builtin; refine push_int rfl _ _ rfl (lay w [.inr db, .inl (.cells #[.slice (some ⟨b, o, none⟩) m cap, .bool wr] 57 (0, 0))]) _ ((k : Int)) 3 _ _ _ ?_ (ow_on (A := [_, _, _]) HO.out) ?_ rfl rfl (by omega) (lit_nat (by omega)) ?_; exact lay_below (A := [_, _, _, _]); exact lay_get w _ 0 _ rfl; intro v' d' hv')
          go_roundw
          case rel => exact ⟨k + 1, d', by omega, .inl (by omega), by go_num, rfl, by rw [HST.out]; exact hv'⟩
          case measure => simp [intOf]; omega
      · have hkh : reps wr l bend lo k = reps wr l bend lo hi := by
          rcases hk2 with h | h
          · rw [show k = hi by omega]
          · rw [reps_self _ _ _ _ _ (by omega), reps_self _ _ _ _ _ (by omega)]
        rw [hkh] at hO
        have hx : decide ((k : Int) ≤ (hi : Int) - 1) = false := decide_eq_false (by omega)
        have HSU : Hid (sus2 wr l bend lo hi B = if reps wr l bend lo hi = [] then B else reps wr l bend lo hi) := Lib.hid rfl
        generalize reps wr l bend lo hi = R at *
        obtain ⟨oa, oc, rfl⟩ := hO.form
        have HO := Lib.hid hO
        clear hO hkh hk2
        by_cases hR : R = []
        · have HSU : Hid (sus2 wr l bend lo hi B = B) := Lib.hid (by rw [HSU.out, if_pos hR])
          subst hR
          go_wp2_with fail
          refine region_bw (by kernel_rfl) (by kernel_rfl) ?_
          repeat (go_big_quiet_step ((first | fail)))
          refine wpQuiet_nil ?_
          rintro w' ⟨d, rfl⟩
          rw [lay_bw]
          go_wp2
          go_ret
          obtain ⟨z, hz⟩ := lay_ex w [.inr d, .inr d1, .inr db, .inl (.cells #[.slice (some ⟨b, o, none⟩) m cap, .bool wr] 57 (0, 0))]
          have h := ow_on (A := [.inr d, .inr d1]) HVB.out
          rw [HQ.out] at h
          exact ⟨_, z, rfl, hz, by rw [← hz, HSU.out]; exact h.le (lay_extends w _).size⟩
        · have HSU : Hid (sus2 wr l bend lo hi B = R) := Lib.hid (by rw [HSU.out, if_neg hR])
          have hz2 : 0 < R.length := List.length_pos_iff.2 hR
          have hz3 : ((R.length : Int) == 0) = false := beq_eq_false_iff_ne.2 (by omega)
          obtain ⟨rl, hrl⟩ : ∃ rl, R.length = rl := ⟨_, rfl⟩
          rw [hrl] at hz2 hz3 HO ⊢
          clear hrl hR
          go_wp2_with fail
          refine region_bw (by kernel_rfl) (by kernel_rfl) ?_
          repeat (go_big_quiet_step ((first | fail)))
          refine wpQuiet_nil ?_
          rintro w' ⟨d, rfl⟩
          rw [lay_bw]
          go_wp2
          go_ret
          obtain ⟨z, hz⟩ := lay_ex w [.inr d, .inr d1, .inr db, .inl (.cells #[.slice (some ⟨b, o, none⟩) m cap, .bool wr] 57 (0, 0))]
          have h := ow_on (A := [.inr d]) HO.out
          exact ⟨_, z, rfl, hz, by rw [← hz, HSU.out]; exact h.le (lay_extends w _).size⟩
end Go.Proofs.Ytgpgfmemnhgmbaa
