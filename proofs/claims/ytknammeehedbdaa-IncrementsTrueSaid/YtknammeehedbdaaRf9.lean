/- The reference of layer 14: Over. -/
import Derived.Test.YtknammeehedbdaaProg
import Derived.Test.YtknammeehedbdaaLay
import Derived.Test.YtknammeehedbdaaRegion
import Derived.Test.YtknammeehedbdaaMix
import Derived.WalkKit
import Derived.WalkSpells
import Derived.WalkLawsBesides
import Derived.Lib.Hide
import Derived.BigQuiet
import Derived.Deep.RegionWith
import Derived.Test.YtknammeehedbdaaPlain
import Derived.Test.YtknammeehedbdaaAngle
import Derived.Test.YtknammeehedbdaaInc1
import Derived.Test.YtknammeehedbdaaTrk
import Derived.Test.YtknammeehedbdaaRf8
namespace Go.Proofs.Ytknammeehedbdaa
open Go.RowKit

/-- How many of the hours below h lie within a span. -/
def cnt (lo hi : Int) (h : Nat) : Nat := min (h - (lo / 3600000 + 1).toNat) (nhr lo hi)
def hulF (A : Int → Int × Int) (lo hi : Int) (h : Nat) : Int × Int := (hrs A (lo / 3600000 + 1) (cnt lo hi h)).foldl hull2 (hull2 (insL A lo, insH A lo) (insL A hi, insH A hi))
theorem hulF_end (A : Int → Int × Int) (lo hi : Int) (l0 : 0 ≤ lo) (h1 : hi ≤ 86400000) : hulF A lo hi 25 = hullL (pcs A lo hi) := by
  have : cnt lo hi 25 = nhr lo hi := by unfold cnt nhr cdiv; omega
  unfold hulF; rw [this]; rfl
theorem hulF_0 (A : Int → Int × Int) (lo hi : Int) : hulF A lo hi 0 = hull2 (insL A lo, insH A lo) (insL A hi, insH A hi) := by
  have : cnt lo hi 0 = 0 := by unfold cnt; omega
  unfold hulF; rw [this]; rfl
theorem hulF_in (A : Int → Int × Int) (lo hi : Int) (h : Nat) (l0 : 0 ≤ lo) (h2 : lo < (h : Int) * 3600000) (h3 : (h : Int) * 3600000 < hi) : hulF A lo hi (h + 1) = hull2 (hulF A lo hi h) (A h) := by
  have e1 : cnt lo hi (h + 1) = cnt lo hi h + 1 := by unfold cnt nhr cdiv; omega
  have e2 : lo / 3600000 + 1 + (cnt lo hi h : Int) = h := by unfold cnt nhr cdiv; omega
  unfold hulF
  rw [e1, hrs_succ, List.foldl_append, e2]
  rfl
theorem hulF_out (A : Int → Int × Int) (lo hi : Int) (h : Nat) (l0 : 0 ≤ lo) (h2 : ¬ (lo < (h : Int) * 3600000 ∧ (h : Int) * 3600000 < hi)) : hulF A lo hi (h + 1) = hulF A lo hi h := by
  have e1 : cnt lo hi (h + 1) = cnt lo hi h := by unfold cnt nhr cdiv; omega
  unfold hulF; rw [e1]

set_option maxHeartbeats 4000000 in
theorem ref14_Over (f : Nat → Int) (g cap : Nat) (lo hi r : Int) (w : World) (hr : Row w g f) (l0 : 0 ≤ lo) (l1 : lo ≤ 86400000) (h0 : 0 ≤ hi) (h1 : hi ≤ 86400000) (r0 : 0 ≤ r) (r1 : r ≤ 1000) :
    Calls Try.prog 46 #[.slice (some ⟨g, 0, none⟩) 25 cap, .int .i64 lo, .int .i64 hi, .int .i64 (cdiv (100 * r) 8)] w fun e w' => e = .returned (.agg #[.int .i64 ((ovr (arcA f) lo hi r).1), .int .i64 ((ovr (arcA f) lo hi r).2)]) ∧ ∃ d, w' = bw w d := by
  have HR := Lib.hid hr
  have HA1 := Lib.hid (fun L => ref14_at f g cap lo (lay w L) (hr.lay L) l0 l1)
  have HA2 := Lib.hid (fun L => ref14_at f g cap hi (lay w L) (hr.lay L) h0 h1)
  have hgs := hr.lt
  clear hr
  obtain ⟨m, hm⟩ : ∃ m, cdiv (100 * r) 8 = m := ⟨_, rfl⟩
  have m0 : 0 ≤ m ∧ m ≤ 12500 := by rw [← hm]; unfold cdiv; omega
  have HO : ovr (arcA f) lo hi r = if lo = hi ∧ lo % 3600000 = 0 then hullL (pcs (arcA f) lo hi) else ((hullL (pcs (arcA f) lo hi)).1 - m, (hullL (pcs (arcA f) lo hi)).2 + m) := by unfold ovr; rw [hm]
  rw [HO, hm]
  clear HO hm r0 r1
  refine lay_start ?_
  go_enter Try.func46, Try.ntmps46
  go_wp2_with (first | (go_at_call 63; first | (with_reducible refine (HA1.out _).mono ?_; rintro e w' ⟨rfl, da, rfl⟩) | (with_reducible refine (HA2.out _).mono ?_; rintro e w' ⟨rfl, db, rfl⟩)) | (go_at_call 62; refine (ref05_Hull _ _ _ _ _).mono ?_; rintro e w' ⟨rfl, dc, rfl⟩))
  clear HA1 HA2
  go_loopw [10] (fun hv wr => ∃ (h : Nat) (e : Ext), h ≤ 25 ∧ hv = .int .i64 h ∧ wr = lay w [.inr e, .inl (.cells #[.int .i64 (hulF (arcA f) lo hi h).1, .int .i64 (hulF (arcA f) lo hi h).2] 23 (0, 0)), .inr dc, .inr db, .inr da, .inl (.cells #[.int .i64 0, .int .i64 0] 23 (0, 0))]) (fun hv _ => 25 - (intOf hv).toNat)
  case atStart => exact ⟨0, noExt _, by decide, rfl, by rw [hulF_0]; simp only [hull2, ← mn_eq, ← mx_eq]; exact (bw_noExt _).symm⟩
  case round =>
    obtain ⟨h, de, hh, rfl, rfl⟩ := hrel
    by_cases hlt : h < 25
    · have y0 : (0 : Int) ≤ (h : Int) := by omega
      have y1 : (h : Int) < 25 := by omega
      have y2 : IntKind.i64.wrap ((h : Int) * 3600000) = (h : Int) * 3600000 := IntWalk.i64_in _ (by omega)
      by_cases hc : lo < (h : Int) * 3600000
      · by_cases hc2 : (h : Int) * 3600000 < hi
        · have c0 := HR.out.cell h hlt
          have f0 := HR.out.bd h (by omega)
          have HNX := Lib.hid (hulF_in (arcA f) lo hi h l0 hc hc2)
          obtain ⟨O, hO⟩ : ∃ O, hulF (arcA f) lo hi h = O := ⟨_, rfl⟩
          rw [hO] at HNX ⊢
          go_wp2_with fail
          refine region_bw_tail 7 (by kernel_rfl) (by kernel_rfl) ?_
          simp only [List.take_succ_cons, List.take_zero, List.drop_succ_cons, List.drop_zero]
          repeat (go_big_quiet_step ((first | (go_at_call 64; refine bq (ref14_around _ _ (by omega) (by omega)) ?_; exact (fun d => lay_join _ _ _ d)) | (go_at_call 62; refine bq (ref05_Hull _ _ _ _ _) ?_; exact (fun d => lay_join _ _ _ d)))))
          refine wpQuiet_nil ?_
          rintro w' ⟨d, rfl⟩
          rw [lay_bw]
          go_wp2
          go_roundw
          case rel =>
            obtain ⟨e2, he2⟩ := lay_fold w [.inr d, .inr de] [.inl (.cells #[.int .i64 (mn O.1 (f h - 50)), .int .i64 (mx O.2 (f h + 50))] 23 (0, 0)), .inr dc, .inr db, .inr da, .inl (.cells #[.int .i64 0, .int .i64 0] 23 (0, 0))]
            refine ⟨h + 1, e2, hlt, by go_num, ?_⟩
            rw [HNX.out, arcA_at f h (by omega)]
            simp only [hull2, ← mn_eq, ← mx_eq]
            exact he2
          case measure => simp [intOf]; omega
        · go_wp2
          go_roundw
          case rel => exact ⟨h + 1, de, hlt, by go_num, by rw [hulF_out _ _ _ _ l0 (fun e => hc2 e.2)]⟩
          case measure => simp [intOf]; omega
      · go_wp2
        go_roundw
        case rel => exact ⟨h + 1, de, hlt, by go_num, by rw [hulF_out _ _ _ _ l0 (fun e => hc e.1)]⟩
        case measure => simp [intOf]; omega
    · obtain rfl : h = 25 := by omega
      have hv : validB (hullL (pcs (arcA f) lo hi)).1 (hullL (pcs (arcA f) lo hi)).2 = true := by
        have := pcs_in (arcA_in HR.out.bd) lo hi
        rw [validB_iff]; omega
      obtain ⟨O, hO⟩ : ∃ O, hullL (pcs (arcA f) lo hi) = O := ⟨_, rfl⟩
      rw [hulF_end _ _ _ l0 h1, hO]
      rw [hO] at hv
      by_cases hq : lo = hi ∧ lo % 3600000 = 0
      · obtain ⟨q1, q2⟩ := hq
        subst q1
        have q3 : (lo % 3600000 == 0) = true := beq_iff_eq.2 q2
        go_wp2
        exact bodyPost_ret (v := (.agg #[.int .i64 (O.1), .int .i64 (O.2)])) (by simp [results, Try.results46, go_sem]) rfl ⟨by first | rfl | rw [if_pos ⟨rfl, q2⟩, hO], lay_ex _ _⟩
      · have HW := Lib.hid (fun W => ref14_wider O.1 O.2 m W hv m0.1 (by omega))
        clear hv
        by_cases hq1 : lo = hi
        · subst hq1
          have q3 : (lo % 3600000 == 0) = false := beq_eq_false_iff_ne.2 fun e => hq ⟨rfl, e⟩
          go_wp2_with (go_at_call 65; refine (HW.out _).mono ?_; rintro e w' ⟨rfl, d, rfl⟩)
          exact bodyPost_ret (v := (.agg #[.int .i64 (O.1 - m), .int .i64 (O.2 + m)])) (by simp [results, Try.results46, go_sem]) rfl ⟨by first | rfl | rw [if_neg (fun e => by rw [e.2] at q3; cases q3), hO], lay_ex _ _⟩
        · have q3 : (lo == hi) = false := beq_eq_false_iff_ne.2 hq1
          go_wp2_with (go_at_call 65; refine (HW.out _).mono ?_; rintro e w' ⟨rfl, d, rfl⟩)
          exact bodyPost_ret (v := (.agg #[.int .i64 (O.1 - m), .int .i64 (O.2 + m)])) (by simp [results, Try.results46, go_sem]) rfl ⟨by first | rfl | rw [if_neg (fun e => hq1 e.1), hO], lay_ex _ _⟩
end Go.Proofs.Ytknammeehedbdaa
