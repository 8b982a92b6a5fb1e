/- The reference of audit: Centres, Possible. -/
import Derived.Test.YtgpgfmemnhgmbaaProg
import Derived.Test.YtgpgfmemnhgmbaaLay
import Derived.Test.YtgpgfmemnhgmbaaRegion
import Derived.Test.YtgpgfmemnhgmbaaMix
import Derived.WalkKit
import Derived.WalkSpells
import Derived.WalkLawsBesides
import Derived.Lib.Hide
import Derived.BigQuiet
import Derived.Deep.RegionWith
import Derived.Test.YtgpgfmemnhgmbaaPlain
import Derived.Test.YtgpgfmemnhgmbaaAngle
import Derived.Test.YtgpgfmemnhgmbaaRe2
namespace Go.Proofs.Ytgpgfmemnhgmbaa
open Go.RowKit

theorem dif2 (wr : Bool) (l : List Int) (i : Nat) : dif wr l 2 i = sec wr l (i + 1) := by
  show (pre wr l (i + 2) - pre wr l (i + 1)) - (pre wr l (i + 1) - pre wr l i) = stp wr l (i + 1) - stp wr l i
  have h1 : pre wr l (i + 2) = pre wr l (i + 1) + stp wr l (i + 1) := rfl
  have h2 : pre wr l (i + 1) = pre wr l i + stp wr l i := rfl
  omega
set_option maxHeartbeats 1000000 in
set_option maxRecDepth 100000 in
theorem re_Centres (v : Value) (l : List Int) (wr : Bool) (bend : Int) (w : World) (hs : Sl w v l) (hg : Giv wr l) (b0 : 0 ≤ bend) (b1 : bend ≤ 1000) :
    Calls Try.prog 32 #[v, .int .i64 bend, .bool wr] w (Rw w (badL wr l bend 1 (l.length - 1))) := by
  have hn := hg.n1000
  have hn3 := hg.n3
  have HD := Lib.hid (fun W (h : Sl W v l) => re_Differences v l wr 2 W h hg (by decide))
  have HB := Lib.hid (fun (k : Nat) (h0 : 1 ≤ k) (h1 : k + 1 < l.length) => sec_bd hg h0 h1)
  have HS := Lib.hid hs
  obtain ⟨b, o, cap, rfl, -⟩ := hs.open (by omega)
  obtain ⟨m, hm⟩ : ∃ m, l.length = m := ⟨_, rfl⟩
  have hdl : difL wr l 2 = rowF (dif wr l 2) (m - 2) := by rw [← hm]; rfl
  rw [hdl] at HD
  rw [hm] at HD HB HS hn hn3 ⊢
  have w2 : IntKind.i64.wrap (bend + 2) = bend + 2 := IntWalk.i64_in _ (by omega)
  have w3 : IntKind.i64.wrap (-bend) = -bend := IntWalk.i64_in _ (by omega)
  have w4 : IntKind.i64.wrap (-bend - 2) = -bend - 2 := IntWalk.i64_in _ (by omega)
  clear hs hg hm hdl
  refine lay_start ?_
  go_enter Try.func32, Try.ntmps32
  go_wp2_with fail
  refine (HD.out _ (HS.out.lay _)).mono ?_
  rintro e w' ⟨vd, dd, rfl, rfl, hd⟩
  obtain ⟨ga, ca, rfl, -⟩ := hd.form1 (by rw [rowF_len]; omega)
  rw [rowF_len] at hd ⊢
  rw [lay_bw] at hd ⊢
  have HDd := Lib.hid hd
  clear hd
  go_wp2_with fail
  go_loopw [8, 9] (fun v8 v9 wr' => ∃ (k : Nat) (d : Ext), k ≤ m - 2 ∧ v9 = .int .i64 (k : Int) ∧ wr' = lay w [.inr d, .inr dd] ∧
      Ow (lay w [.inr d, .inr dd]) (lay w [.inr dd]).heap.size v8 (badL wr l bend 1 (k + 1))) (fun _ v9 _ => m - 2 - (intOf v9).toNat)
  case atStart => exact ⟨0, noExt _, Nat.zero_le _, rfl, (bw_noExt _).symm, by rw [badL_self _ _ _ _ _ (Nat.le_refl _)]; exact Ow.nil _ _⟩
  case round =>
    obtain ⟨k, d, hk, rfl, rfl, hO⟩ := hrel
    by_cases hlt : k < m - 2
    · have k0 : (lay w [.inr d, .inr dd]).cell? ⟨ga, k, none⟩ = some (.int .i64 (sec wr l (k + 1))) := by
        have := (ow_on (A := [.inr d]) HDd.out).cell (i := k) (by rw [rowF_len]; omega)
        rw [rowF_nth _ _ _ hlt, dif2] at this
        exact this
      have sb := HB.out (k + 1) (by omega) (by omega)
      have hst := badL_step wr l bend 1 (k + 1) (by omega)
      have hll := badL_len (wr := wr) (l := l) (bend := bend) (lo := 1) (hi := k + 1)
      have x1 : (k : Int) < ((m - 2 : Nat) : Int) := by omega
      have w5 : IntKind.i64.wrap ((k : Int) + 1) = (k : Int) + 1 := IntWalk.i64_in _ (by omega)
      have hwf : (Lit.int .i64 ((k : Int) + 1)).wf = true := lit_bd (by omega)
      rw [show (((k + 1 : Nat)) : Int) = (k : Int) + 1 by omega] at hst
      have HO := Lib.hid hO
      clear hO
      generalize badL wr l bend 1 (k + 1) = R at *
      generalize sec wr l (k + 1) = X at *
      by_cases h1 : bend + 2 < X
      · have t1 : decide (bend + 2 < X) = true := decide_eq_true h1
        have HST : Hid (badL wr l bend 1 (k + 1 + 1) = R ++ [(k : Int) + 1]) := Lib.hid (by rw [hst, if_pos (by unfold badB; exact decide_eq_true (.inl h1))])
        clear hst
        go_wp2_with (at_builtin; refine push_int rfl _ _ rfl (lay w [.inr dd]) _ ((k : Int) + 1) 3 _ _ _ ?_ (ow_on (A := [_]) HO.out) ?_ rfl rfl (by omega) hwf ?_; exact lay_below (A := [_, _]); exact lay_get w _ 0 _ rfl; intro v' d' hv')
        go_roundw
        case rel => exact ⟨k + 1, d', by omega, by go_num, rfl, by rw [HST.out]; exact hv'⟩
        case measure => simp [intOf]; omega
      · have t1 : decide (bend + 2 < X) = false := decide_eq_false h1
        by_cases h2 : X < -bend - 2
        · have t2 : decide (X < -bend - 2) = true := decide_eq_true h2
          have HST : Hid (badL wr l bend 1 (k + 1 + 1) = R ++ [(k : Int) + 1]) := Lib.hid (by rw [hst, if_pos (by unfold badB; exact decide_eq_true (.inr h2))])
          clear hst
          go_wp2_with (at_builtin; refine push_int rfl _ _ rfl (lay w [.inr dd]) _ ((k : Int) + 1) 3 _ _ _ ?_ (ow_on (A := [_]) HO.out) ?_ rfl rfl (by omega) hwf ?_; exact lay_below (A := [_, _]); exact lay_get w _ 0 _ rfl; intro v' d' hv')
          go_roundw
          case rel => exact ⟨k + 1, d', by omega, by go_num, rfl, by rw [HST.out]; exact hv'⟩
          case measure => simp [intOf]; omega
        · have t2 : decide (X < -bend - 2) = false := decide_eq_false h2
          have HST : Hid (badL wr l bend 1 (k + 1 + 1) = R) := Lib.hid (by rw [hst, if_neg (by unfold badB; simp; omega), List.append_nil])
          clear hst
          go_wp2_with fail
          go_roundw
          case rel => exact ⟨k + 1, d, by omega, by go_num, rfl, by rw [HST.out]; exact HO.out⟩
          case measure => simp [intOf]; omega
    · obtain rfl : k = m - 2 := by omega
      rw [show m - 2 + 1 = m - 1 by omega] at hO
      have HO := Lib.hid hO
      clear hO
      go_wp2
      go_ret
      obtain ⟨z, hz⟩ := lay_ex w [.inr d, .inr dd]
      exact ⟨_, z, rfl, hz, by rw [← hz]; exact HO.out.le (lay_extends w [.inr dd]).size⟩
set_option maxHeartbeats 1000000 in
theorem re_Possible (v : Value) (l : List Int) (wr : Bool) (bend : Int) (w : World) (hs : Sl w v l) :
    Calls Try.prog 17 #[v, .int .i64 bend, .bool wr] w fun e w' => e = .returned (.tuple #[.bool (posB wr l bend), .int .i64 (posK wr l bend), .int .i64 (gvE wr l bend)]) ∧ ∃ d, w' = bw w d := by
  have HG := Lib.hid (fun W (h : Sl W v l) => re_Given v l wr W h)
  have HBe := Lib.hid (fun W => re_Bend bend W)
  have HS := Lib.hid hs
  unfold posB posK
  have hE : gvE wr l bend = if givE wr l = 0 then (if 0 ≤ bend ∧ bend ≤ 1000 then 0 else 2) else givE wr l := rfl
  by_cases h0 : gvE wr l bend = 0
  · obtain ⟨hg, b0, b1⟩ := gvE_0.1 h0
    have HCe := Lib.hid (fun W (h : Sl W v l) => re_Centres v l wr bend W h hg b0 b1)
    rw [giv_iff.2 hg] at HG
    rw [show decide (0 ≤ bend ∧ bend ≤ 1000) = true by simp; omega] at HBe
    rw [h0]
    obtain ⟨a, cap, rfl, -⟩ := hs
    clear h0 hg hE
    generalize badL wr l bend 1 (l.length - 1) = B at *
    generalize l.length = m at *
    by_cases hz : B = []
    · subst hz
      rw [if_pos rfl, if_pos rfl]
      refine lay_start ?_
      go_enter Try.func17, Try.ntmps17
      go_wp2_with (first | (go_at_call 13; refine (HG.out _ (HS.out.lay _)).mono ?_; rintro e w1 ⟨rfl, hw1⟩; subst hw1) | (go_at_call 31; refine (HBe.out _).mono ?_; rintro e w1 ⟨rfl, hw1⟩; subst hw1))
      refine (HCe.out _ (HS.out.lay [])).mono ?_
      rintro e w' ⟨vb, db, rfl, rfl, hvb⟩
      obtain ⟨ba, bc, rfl⟩ := hvb.form
      rw [lay_bw]
      clear hvb
      go_wp2
      exact bodyPost_ret (v := .tuple #[.bool true, .int .i64 (-1), .int .i64 0]) (by simp [results, Try.results17, go_sem]) rfl ⟨rfl, lay_ex _ _⟩
    · rw [if_pos rfl, if_neg hz, show B.isEmpty = false by simpa using hz, Bool.and_false]
      have hpos : 0 < B.length := List.length_pos_iff.2 hz
      have hd : decide ((0 : Int) < (B.length : Int)) = true := decide_eq_true (by omega)
      have hd2 : (0 : Int) < (B.length : Int) := by omega
      refine lay_start ?_
      go_enter Try.func17, Try.ntmps17
      go_wp2_with (first | (go_at_call 13; refine (HG.out _ (HS.out.lay _)).mono ?_; rintro e w1 ⟨rfl, hw1⟩; subst hw1) | (go_at_call 31; refine (HBe.out _).mono ?_; rintro e w1 ⟨rfl, hw1⟩; subst hw1))
      refine (HCe.out _ (HS.out.lay [])).mono ?_
      rintro e w' ⟨vb, db, rfl, rfl, hvb⟩
      obtain ⟨gb, bc, rfl, -⟩ := hvb.form1 hpos
      have k0 := hvb.cell (i := 0) hpos
      have k1 := fun d => (hvb.bw d).cell (i := 0) hpos
      simp only [lay_bw] at k1
      rw [lay_bw] at k0 ⊢
      clear hvb
      generalize B.length = q at *
      go_wp2_with fail
      refine region_bw (by kernel_rfl) (by kernel_rfl) ?_
      repeat (go_big_quiet_step ((first | fail)))
      refine wpQuiet_nil ?_
      rintro w' ⟨d, rfl⟩
      rw [lay_bw]
      go_wp2
      exact bodyPost_ret (v := .tuple #[.bool false, .int .i64 (nth B 0), .int .i64 0]) (by simp [results, Try.results17, go_sem]) rfl ⟨rfl, lay_ex _ _⟩
  · rw [if_neg h0, decide_eq_false h0, Bool.false_and]
    obtain ⟨a, cap, rfl, -⟩ := hs
    by_cases h1 : givE wr l = 0
    · have hE2 : gvE wr l bend = 2 := by
        rw [hE, if_pos h1]
        rw [hE, if_pos h1] at h0
        by_cases hb : 0 ≤ bend ∧ bend ≤ 1000
        · rw [if_pos hb] at h0; exact absurd rfl h0
        · rw [if_neg hb]
      have hb : ¬ (0 ≤ bend ∧ bend ≤ 1000) := fun h => h0 (by rw [hE, if_pos h1, if_pos h])
      rw [hE2]
      rw [h1] at HG
      rw [decide_eq_false hb] at HBe
      clear hE hE2 h0 h1
      generalize l.length = m at *
      refine lay_start ?_
      go_enter Try.func17, Try.ntmps17
      go_wp2_with (first | (go_at_call 13; refine (HG.out _ (HS.out.lay _)).mono ?_; rintro e w1 ⟨rfl, hw1⟩; subst hw1) | (go_at_call 31; refine (HBe.out _).mono ?_; rintro e w1 ⟨rfl, hw1⟩; subst hw1))
      exact bodyPost_ret (v := .tuple #[.bool false, .int .i64 0, .int .i64 2]) (by simp [results, Try.results17, go_sem]) rfl ⟨rfl, lay_ex _ []⟩
    · have hE2 : gvE wr l bend = givE wr l := by rw [hE, if_neg h1]
      rw [hE2]
      have t1 : (givE wr l == 0) = false := beq_eq_false_iff_ne.2 h1
      clear hE hE2 h0 h1
      generalize givE wr l = E at *
      generalize l.length = m at *
      refine lay_start ?_
      go_enter Try.func17, Try.ntmps17
      go_wp2_with (go_at_call 13; refine (HG.out _ (HS.out.lay _)).mono ?_; rintro e w1 ⟨rfl, hw1⟩; subst hw1)
      exact bodyPost_ret (v := .tuple #[.bool false, .int .i64 0, .int .i64 E]) (by simp [results, Try.results17, go_sem]) rfl ⟨rfl, lay_ex _ []⟩
end Go.Proofs.Ytgpgfmemnhgmbaa
