/- Contracts and plain laws, several texts in one: Rf8; Rf9; Rf10 -/
import Derived.Test.YthjfadfebhjhbaaGreatProg
import Derived.WalkKit
import Derived.WalkSpells
import Derived.WalkLawsBesides
import Derived.Lib.Hide
import Derived.BigQuiet
import Derived.Deep.RegionWith
import Derived.Test.YthjfadfebhjhbaaGreatQAA
import Derived.Test.YthjfadfebhjhbaaGreatQAB
import Derived.Test.YthjfadfebhjhbaaGreatQAD
import Derived.Test.YthjfadfebhjhbaaGreatQAE
import Derived.Test.YthjfadfebhjhbaaGreatQAJ
import Derived.Test.YthjfadfebhjhbaaGreatQAP
import Derived.Test.YthjfadfebhjhbaaGreatQAQ
import Derived.Test.YthjfadfebhjhbaaGreatQAR
/- The reference of layer 14: the arc at an instant. -/
namespace Go.Proofs.YthjfadfebhjhbaaGreat
open Go.RowKit

structure Row (w : World) (g : Nat) (f : Nat → Int) : Prop where
  lt : g < w.heap.size
  cell : ∀ k, k < 25 → w.cell? ⟨g, k, none⟩ = some (.int .i64 (f k))
  bd : ∀ i, i ≤ 24 → -1000000000000 ≤ f i ∧ f i ≤ 1000000000000
theorem Row.lay {w : World} {g : Nat} {f : Nat → Int} (h : Row w g f) (L : List (Obj ⊕ Ext)) : Row (lay w L) g f :=
  ⟨Nat.lt_of_lt_of_le h.lt (lay_extends w L).size, fun k hk => ((lay_extends w L).cell (p := ⟨g, k, none⟩) h.lt).trans (h.cell k hk), h.bd⟩
set_option maxHeartbeats 400000 in
set_option maxRecDepth 100000 in
theorem ref14_around (n : Int) (w : World) (h1 : -1099511627776 ≤ n) (h2 : n ≤ 1099511627776) :
    Calls Tryz.prog 188 #[.int .i64 n] w fun e w' => e = .returned (.agg #[.int .i64 (n - 50), .int .i64 (n + 50)]) ∧ ∃ d, w' = bw w d := by
  refine lay_start ?_
  go_enter Tryz.func188, Tryz.ntmps188
  go_wp2
  exact bodyPost_ret (v := (.agg #[.int .i64 (n - 50), .int .i64 (n + 50)])) (by simp [results, Tryz.results188, go_sem]) rfl ⟨rfl, lay_ex _ _⟩
set_option maxHeartbeats 400000 in
set_option maxRecDepth 100000 in
theorem ref14_wider (x y n : Int) (w : World) (h0 : validB x y = true) (h1 : 0 ≤ n) (h2 : n ≤ 100000) :
    Calls Tryz.prog 189 #[(.agg #[.int .i64 (x), .int .i64 (y)]), .int .i64 n] w fun e w' => e = .returned (.agg #[.int .i64 (x - n), .int .i64 (y + n)]) ∧ ∃ d, w' = bw w d := by
  obtain ⟨g1, g2, g3⟩ := validB_iff.1 h0
  clear h0
  refine lay_start ?_
  go_enter Tryz.func189, Tryz.ntmps189
  go_wp2
  exact bodyPost_ret (v := (.agg #[.int .i64 (x - n), .int .i64 (y + n)])) (by simp [results, Tryz.results189, go_sem]) rfl ⟨rfl, lay_ex _ _⟩
set_option maxHeartbeats 2000000 in
set_option maxRecDepth 100000 in
theorem ref14_at (f : Nat → Int) (g cap : Nat) (ms : Int) (w : World) (hr : Row w g f) (h0 : 0 ≤ ms) (h1 : ms ≤ 86400000) :
    Calls Tryz.prog 187 #[.slice (some ⟨g, 0, none⟩) 25 cap, .int .i64 ms] w fun e w' => e = .returned (.agg #[.int .i64 (insL (arcA f) ms), .int .i64 (insH (arcA f) ms)]) ∧ ∃ d, w' = bw w d := by
  obtain ⟨k, hk⟩ := Int.eq_ofNat_of_zero_le (show 0 ≤ ms / 3600000 by omega)
  have hk24 : k ≤ 24 := by omega
  have hgs := hr.lt
  have c0 := hr.cell k (by omega)
  have f0 := hr.bd k hk24
  have b1 : (0 : Int) ≤ (k : Int) := by omega
  have b2 : (k : Int) < 25 := by omega
  by_cases hrm : ms % 3600000 = 0
  · have e : insL (arcA f) ms = f k - 50 ∧ insH (arcA f) ms = f k + 50 := by unfold insL insH; rw [if_pos hrm, if_pos hrm, hk, arcA_at f k hk24]; exact ⟨rfl, rfl⟩
    rw [e.1, e.2]
    have hq : (ms % 3600000 == 0) = true := beq_iff_eq.2 hrm
    clear e hrm
    refine lay_start ?_
    go_enter Tryz.func187, Tryz.ntmps187
    go_wp2_with (go_at_call 188; refine (ref14_around _ _ (by omega) (by omega)).mono ?_; rintro e w' ⟨rfl, d, rfl⟩)
    exact bodyPost_ret (v := (.agg #[.int .i64 (f k - 50), .int .i64 (f k + 50)])) (by simp [results, Tryz.results187, go_sem]) rfl ⟨rfl, lay_ex _ _⟩
  · have hk23 : k < 24 := by omega
    have e : insL (arcA f) ms = linLo (f k - 50) (f (k + 1) - 50) (ms % 3600000) 3600000 ∧ insH (arcA f) ms = linHi (f k + 50) (f (k + 1) + 50) (ms % 3600000) 3600000 := by
      unfold insL insH; rw [if_neg hrm, if_neg hrm, hk, arcA_at f k hk24, show (k : Int) + 1 = ((k + 1 : Nat) : Int) by omega, arcA_at f (k + 1) (by omega)]; exact ⟨rfl, rfl⟩
    rw [e.1, e.2]
    have hq : (ms % 3600000 == 0) = false := beq_eq_false_iff_ne.2 hrm
    have c1 := hr.cell (k + 1) (by omega)
    have f1 := hr.bd (k + 1) (by omega)
    have b3 : (0 : Int) ≤ (k : Int) + 1 := by omega
    have b4 : (k : Int) + 1 < 25 := by omega
    have b5 : ((k : Int) + 1).toNat = k + 1 := by omega
    have hw1 : IntKind.i64.wrap ((k : Int) + 1) = (k : Int) + 1 := IntWalk.i64_in _ (by omega)
    have r0 : 0 ≤ ms % 3600000 ∧ ms % 3600000 < 3600000 := by omega
    have LK : LinOk (f k - 50) (f k + 50) (f (k + 1) - 50) (f (k + 1) + 50) (ms % 3600000) 3600000 := by constructor <;> omega
    have HL := Lib.hid (fun W => ref14_Linear _ _ _ _ _ _ W LK)
    have HA1 := Lib.hid (fun W => ref14_around (f k) W (by omega) (by omega))
    have HA2 := Lib.hid (fun W => ref14_around (f (k + 1)) W (by omega) (by omega))
    clear e hrm LK
    refine lay_start ?_
    go_enter Tryz.func187, Tryz.ntmps187
    go_wp2_with fail
    refine region_bw_tail 13 (by kernel_rfl) (by kernel_rfl) ?_
    simp only [List.take_succ_cons, List.take_zero, List.drop_succ_cons, List.drop_zero]
    repeat (go_big_quiet_step ((first | (go_at_call 188; first | (with_reducible refine bq (HA1.out _) ?_; exact (fun d => lay_join _ _ _ d)) | (with_reducible refine bq (HA2.out _) ?_; exact (fun d => lay_join _ _ _ d))) | (go_at_call 231; with_reducible refine bq (HL.out _) ?_; exact (fun d => lay_join _ _ _ d)))))
    refine wpQuiet_nil ?_
    rintro w' ⟨d, rfl⟩
    rw [lay_bw]
    go_wp2
    exact bodyPost_ret (v := (.agg #[.int .i64 (linLo (f k - 50) (f (k + 1) - 50) (ms % 3600000) 3600000), .int .i64 (linHi (f k + 50) (f (k + 1) + 50) (ms % 3600000) 3600000)])) (by simp [results, Tryz.results187, go_sem]) rfl ⟨rfl, lay_ex _ _⟩
end Go.Proofs.YthjfadfebhjhbaaGreat
/- The reference of layer 14: Over. -/
namespace Go.Proofs.YthjfadfebhjhbaaGreat
open Go.RowKit

def cnt (lo hi : Int) (h : Nat) : Nat := min (h - (lo / 3600000 + 1).toNat) (nhr lo hi)
def hulF (A : Int → Int × Int) (lo hi : Int) (h : Nat) : Int × Int := (hrs A (lo / 3600000 + 1) (cnt lo hi h)).foldl hull2 (hull2 (insL A lo, insH A lo) (insL A hi, insH A hi))
theorem hulF_end (A : Int → Int × Int) (lo hi : Int) (l0 : 0 ≤ lo) (h1 : hi ≤ 86400000) : hulF A lo hi 25 = hullL (pcs A lo hi) := by
  have : cnt lo hi 25 = nhr lo hi := by unfold cnt nhr cdiv; omega
  unfold hulF; rw [this]; rfl
theorem hulF_0 (A : Int → Int × Int) (lo hi : Int) : hulF A lo hi 0 = hull2 (insL A lo, insH A lo) (insL A hi, insH A hi) := by
  have : cnt lo hi 0 = 0 := by unfold cnt; omega
  unfold hulF; rw [this]; rfl
theorem hulF_in (A : Int → Int × Int) (lo hi : Int) (h : Nat) (l0 : 0 ≤ lo) (h2 : lo < (h : Int) * 3600000) (h3 : (h : Int) * 3600000 < hi) : hulF A lo hi (h + 1) = hull2 (hulF A lo hi h) (A h) := by
  have e1 : cnt lo hi (h + 1) = cnt lo hi h + 1 := by unfold cnt nhr cdiv; omega
  have e2 : lo / 3600000 + 1 + (cnt lo hi h : Int) = h := by unfold cnt nhr cdiv; omega
  unfold hulF
  rw [e1, hrs_succ, List.foldl_append, e2]
  rfl
theorem hulF_out (A : Int → Int × Int) (lo hi : Int) (h : Nat) (l0 : 0 ≤ lo) (h2 : ¬ (lo < (h : Int) * 3600000 ∧ (h : Int) * 3600000 < hi)) : hulF A lo hi (h + 1) = hulF A lo hi h := by
  have e1 : cnt lo hi (h + 1) = cnt lo hi h := by unfold cnt nhr cdiv; omega
  unfold hulF; rw [e1]

set_option maxHeartbeats 4000000 in
set_option maxRecDepth 100000 in
theorem ref14_Over (f : Nat → Int) (g cap : Nat) (lo hi r : Int) (w : World) (hr : Row w g f) (l0 : 0 ≤ lo) (l1 : lo ≤ 86400000) (h0 : 0 ≤ hi) (h1 : hi ≤ 86400000) (r0 : 0 ≤ r) (r1 : r ≤ 1000) :
    Calls Tryz.prog 150 #[.slice (some ⟨g, 0, none⟩) 25 cap, .int .i64 lo, .int .i64 hi, .int .i64 (cdiv (100 * r) 8)] w fun e w' => e = .returned (.agg #[.int .i64 ((ovr (arcA f) lo hi r).1), .int .i64 ((ovr (arcA f) lo hi r).2)]) ∧ ∃ d, w' = bw w d := by
  have HR := Lib.hid hr
  have HA1 := Lib.hid (fun L => ref14_at f g cap lo (lay w L) (hr.lay L) l0 l1)
  have HA2 := Lib.hid (fun L => ref14_at f g cap hi (lay w L) (hr.lay L) h0 h1)
  have hgs := hr.lt
  clear hr
  obtain ⟨m, hm⟩ : ∃ m, cdiv (100 * r) 8 = m := ⟨_, rfl⟩
  have m0 : 0 ≤ m ∧ m ≤ 12500 := by rw [← hm]; unfold cdiv; omega
  have HO : ovr (arcA f) lo hi r = if lo = hi ∧ lo % 3600000 = 0 then hullL (pcs (arcA f) lo hi) else ((hullL (pcs (arcA f) lo hi)).1 - m, (hullL (pcs (arcA f) lo hi)).2 + m) := by unfold ovr; rw [hm]
  rw [HO, hm]
  clear HO hm r0 r1
  refine lay_start ?_
  go_enter Tryz.func150, Tryz.ntmps150
  go_wp2_with (first | (go_at_call 187; first | (with_reducible refine (HA1.out _).mono ?_; rintro e w' ⟨rfl, da, rfl⟩) | (with_reducible refine (HA2.out _).mono ?_; rintro e w' ⟨rfl, db, rfl⟩)) | (go_at_call 71; refine (ref05_Hull _ _ _ _ _).mono ?_; rintro e w' ⟨rfl, dc, rfl⟩))
  clear HA1 HA2
  go_loopw [10] (fun hv wr => ∃ (h : Nat) (e : Ext), h ≤ 25 ∧ hv = .int .i64 h ∧ wr = lay w [.inr e, .inl (.cells #[.int .i64 (hulF (arcA f) lo hi h).1, .int .i64 (hulF (arcA f) lo hi h).2] 26 (0, 0)), .inr dc, .inr db, .inr da, .inl (.cells #[.int .i64 0, .int .i64 0] 26 (0, 0))]) (fun hv _ => 25 - (intOf hv).toNat)
  case atStart => exact ⟨0, noExt _, by decide, rfl, by rw [hulF_0]; simp only [hull2, ← mn_eq, ← mx_eq]; exact (bw_noExt _).symm⟩
  case round =>
    obtain ⟨h, de, hh, rfl, rfl⟩ := hrel
    by_cases hlt : h < 25
    · have y0 : (0 : Int) ≤ (h : Int) := by omega
      have y1 : (h : Int) < 25 := by omega
      have y2 : IntKind.i64.wrap ((h : Int) * 3600000) = (h : Int) * 3600000 := IntWalk.i64_in _ (by omega)
      by_cases hc : lo < (h : Int) * 3600000
      · by_cases hc2 : (h : Int) * 3600000 < hi
        · have c0 := HR.out.cell h hlt
          have f0 := HR.out.bd h (by omega)
          have HNX := Lib.hid (hulF_in (arcA f) lo hi h l0 hc hc2)
          obtain ⟨O, hO⟩ : ∃ O, hulF (arcA f) lo hi h = O := ⟨_, rfl⟩
          rw [hO] at HNX ⊢
          go_wp2_with fail
          refine region_bw_tail 7 (by kernel_rfl) (by kernel_rfl) ?_
          simp only [List.take_succ_cons, List.take_zero, List.drop_succ_cons, List.drop_zero]
          repeat (go_big_quiet_step ((first | (go_at_call 188; refine bq (ref14_around _ _ (by omega) (by omega)) ?_; exact (fun d => lay_join _ _ _ d)) | (go_at_call 71; refine bq (ref05_Hull _ _ _ _ _) ?_; exact (fun d => lay_join _ _ _ d)))))
          refine wpQuiet_nil ?_
          rintro w' ⟨d, rfl⟩
          rw [lay_bw]
          go_wp2
          go_roundw
          case rel =>
            obtain ⟨e2, he2⟩ := lay_fold w [.inr d, .inr de] [.inl (.cells #[.int .i64 (mn O.1 (f h - 50)), .int .i64 (mx O.2 (f h + 50))] 26 (0, 0)), .inr dc, .inr db, .inr da, .inl (.cells #[.int .i64 0, .int .i64 0] 26 (0, 0))]
            refine ⟨h + 1, e2, hlt, by go_num, ?_⟩
            rw [HNX.out, arcA_at f h (by omega)]
            simp only [hull2, ← mn_eq, ← mx_eq]
            exact he2
          case measure => simp [intOf]; omega
        · go_wp2
          go_roundw
          case rel => exact ⟨h + 1, de, hlt, by go_num, by rw [hulF_out _ _ _ _ l0 (fun e => hc2 e.2)]⟩
          case measure => simp [intOf]; omega
      · go_wp2
        go_roundw
        case rel => exact ⟨h + 1, de, hlt, by go_num, by rw [hulF_out _ _ _ _ l0 (fun e => hc e.1)]⟩
        case measure => simp [intOf]; omega
    · obtain rfl : h = 25 := by omega
      have hv : validB (hullL (pcs (arcA f) lo hi)).1 (hullL (pcs (arcA f) lo hi)).2 = true := by
        have := pcs_in (arcA_in HR.out.bd) lo hi
        rw [validB_iff]; omega
      obtain ⟨O, hO⟩ : ∃ O, hullL (pcs (arcA f) lo hi) = O := ⟨_, rfl⟩
      rw [hulF_end _ _ _ l0 h1, hO]
      rw [hO] at hv
      by_cases hq : lo = hi ∧ lo % 3600000 = 0
      · obtain ⟨q1, q2⟩ := hq
        subst q1
        have q3 : (lo % 3600000 == 0) = true := beq_iff_eq.2 q2
        go_wp2
        exact bodyPost_ret (v := (.agg #[.int .i64 (O.1), .int .i64 (O.2)])) (by simp [results, Tryz.results150, go_sem]) rfl ⟨by first | rfl | rw [if_pos ⟨rfl, q2⟩, hO], lay_ex _ _⟩
      · have HW := Lib.hid (fun W => ref14_wider O.1 O.2 m W hv m0.1 (by omega))
        clear hv
        by_cases hq1 : lo = hi
        · subst hq1
          have q3 : (lo % 3600000 == 0) = false := beq_eq_false_iff_ne.2 fun e => hq ⟨rfl, e⟩
          go_wp2_with (go_at_call 189; refine (HW.out _).mono ?_; rintro e w' ⟨rfl, d, rfl⟩)
          exact bodyPost_ret (v := (.agg #[.int .i64 (O.1 - m), .int .i64 (O.2 + m)])) (by simp [results, Tryz.results150, go_sem]) rfl ⟨by first | rfl | rw [if_neg (fun e => by rw [e.2] at q3; cases q3), hO], lay_ex _ _⟩
        · have q3 : (lo == hi) = false := beq_eq_false_iff_ne.2 hq1
          go_wp2_with (go_at_call 189; refine (HW.out _).mono ?_; rintro e w' ⟨rfl, d, rfl⟩)
          exact bodyPost_ret (v := (.agg #[.int .i64 (O.1 - m), .int .i64 (O.2 + m)])) (by simp [results, Tryz.results150, go_sem]) rfl ⟨by first | rfl | rw [if_neg (fun e => hq1 e.1), hO], lay_ex _ _⟩
end Go.Proofs.YthjfadfebhjhbaaGreat
/- The reference of layer 14: Margin, Gha, Dec. -/
namespace Go.Proofs.YthjfadfebhjhbaaGreat
open Go.RowKit

theorem Row.cons {w : World} {g : Nat} {f : Nat → Int} {L : List (Obj ⊕ Ext)} (h : Row (Go.Proofs.YthjfadfebhjhbaaGreat.lay w L) g f) (d : Ext) : Row (Go.Proofs.YthjfadfebhjhbaaGreat.lay w (.inr d :: L)) g f := h.lay [.inr d]
theorem row_of {w : World} {base g cap : Nat} {e : TypeId} {xs : List Value} {f : Nat → Int} (h : w.ownsRow base e 1 (.slice (some ⟨g, 0, none⟩) 25 cap) 25 xs) (hx : ∀ k, k < 25 → xs[k]? = some (.int .i64 (f k)))
    (hb : ∀ i, i ≤ 24 → -1000000000000 ≤ f i ∧ f i ≤ 1000000000000) : Row w g f :=
  ⟨(h.lt g rfl).2, fun k hk => (h.cellAt k (by omega)).trans (hx k hk), hb⟩
set_option maxHeartbeats 400000 in
set_option maxRecDepth 100000 in
theorem ref14_Margin (v : Value) (t : TrkV) (w : World) (hv : Trk w v t) (hg : GD t) :
    Calls Tryz.prog 152 #[v] w fun e w' => e = .returned (.int .i64 (cdiv (100 * t.r) 8)) ∧ ∃ d, w' = bw w d := by
  obtain ⟨vg, vd, hvv, -⟩ := id hv
  subst hvv
  have r0 := hg.r0
  have r1 := hg.r1
  clear hv hg
  refine lay_start ?_
  go_enter Tryz.func152, Tryz.ntmps152
  go_wp2_with (go_at_call 190; refine (ref05_Ceil _ _ _ (by omega) (by omega) (by omega)).mono ?_; rintro e w' ⟨rfl, rfl⟩)
  go_ret
  exact ⟨rfl, lay_ex _ _⟩
set_option maxHeartbeats 400000 in
set_option maxRecDepth 100000 in
theorem ref13_Latitude (x y : Int) (w : World) :
    Calls Tryz.prog 108 #[(.agg #[.int .i64 (x), .int .i64 (y)])] w fun e w' => e = .returned (.agg #[.int .i64 (mx x (-5400000)), .int .i64 (mn y 5400000)]) ∧ ∃ d, w' = bw w d := by
  refine lay_start ?_
  go_enter Tryz.func108, Tryz.ntmps108
  go_wp2_with (go_at_call 148; refine (ref05_Meet _ _ _ _ _).mono ?_; rintro e w' ⟨rfl, d, rfl⟩)
  exact bodyPost_ret (v := (.agg #[.int .i64 (mx x (-5400000)), .int .i64 (mn y 5400000)])) (by simp [results, Tryz.results108, go_sem]) rfl ⟨rfl, lay_ex _ _⟩
theorem turn_cond {x y : Int} (h : validB x y = true) : -4611686018427387904 ≤ x ∧ x ≤ y ∧ y ≤ 4611686018427387903 := by
  have := validB_iff.1 h; omega

set_option maxHeartbeats 4000000 in
set_option maxRecDepth 100000 in
theorem ref14_Gha (v : Value) (t : TrkV) (lo hi : Int) (w : World) (hv : Trk w v t) (hg : GD t) (l0 : 0 ≤ lo) (l1 : lo ≤ 86400000) (h0 : 0 ≤ hi) (h1 : hi ≤ 86400000) :
    Calls Tryz.prog 111 #[v, .int .i64 lo, .int .i64 hi] w fun e w' => e = .returned (.agg #[.int .i64 (turnLo (ghaO t lo hi).1 (ghaO t lo hi).2), .int .i64 (turnHi (ghaO t lo hi).1 (ghaO t lo hi).2)]) ∧ ∃ d, w' = bw w d := by
  obtain ⟨vg, vd, hvv, -⟩ := id hv
  subst hvv
  have HV := Lib.hid (fun L => hv.lay L)
  have HG := Lib.hid hg
  have HM := Lib.hid (fun L => ref14_Margin _ t (lay w L) (hv.lay L) hg)
  have HVD := Lib.hid (ghaO_valid hg lo hi)
  refine lay_start ?_
  go_enter Tryz.func111, Tryz.ntmps111
  go_wp2_with fail
  refine region_mixP [(0, 0), (2, 0), (3, 0), (4, 0), (1, 1), (5, 0)] (by kernel_rfl) (by kernel_rfl) (by kernel_rfl) (by kernel_rfl) (by decide) (by kernel_rfl) ?_
  simp only [List.drop_succ_cons, List.drop_zero, List.length_cons, List.length_nil, Nat.reduceAdd]
  iterate 4 (refine wpMP_quiet rfl (fun K hK => ?_); go_simp; refine hK _ ?_; clear hK K)
  refine wpMP_special rfl (fun K hK d0 => ?_)
  go_simp
  refine (ref14_Unwrapped _ t _ (HV.out _) (by rw [HG.out.lg]; decide) (by rw [HG.out.lg]; decide) HG.out.bg).mono ?_
  rintro e w' ⟨v', da, rfl, rfl, hown⟩
  rw [HG.out.lg] at hown
  obtain ⟨g, cp, rfl⟩ := row_form hown (by decide)
  have hR : Row (lay w [.inr da, .inr d0, .inl (.cells #[.int .i64 0, .int .i64 0] 26 (0, 0)), .inl (.cells #[.string t.s, vg, vd, .int .i64 t.p, .int .i64 t.q, .int .i64 t.r] 126 (0, 0))]) g (ang t.g) := row_of hown (fun k hk => angs_get _ _ _ hk) (ang_ok HG.out)
  clear hown
  refine ⟨_, rfl, ?_⟩
  go_simp
  refine hK _ _ (lay_in w [_, _] _) ?_
  clear hK K
  refine wpMP_quiet rfl (fun K hK => ?_)
  go_simp
  apply Exists.intro
  refine ⟨fun _ => ?_, hK _ ?_⟩
  · exact bq (HM.out _) (fun d => ⟨d, rfl⟩)
  clear hK K
  refine wpMP_nil ?_
  intro d1
  rw [lay_bw]
  have HO := Lib.hid (fun x => ref14_Over (ang t.g) g cp lo hi t.r _ (hR.cons x) l0 l1 h0 h1 HG.out.r0 HG.out.r1)
  rw [show ovr (arcA (ang t.g)) lo hi t.r = ghaO t lo hi from rfl] at HO
  obtain ⟨O, hO⟩ : ∃ O, ghaO t lo hi = O := ⟨_, rfl⟩
  rw [hO] at HVD HO
  clear hR
  go_wp2_with (first | (go_at_call 150; refine (HO.out _).mono ?_; rintro e w' ⟨rfl, d, rfl⟩) | (go_at_call 63; refine (ref05_Turn _ _ _ (turn_cond HVD.out).1 (turn_cond HVD.out).2.1 (turn_cond HVD.out).2.2).mono ?_; rintro e w' ⟨rfl, d, rfl⟩))
  exact bodyPost_ret (v := (.agg #[.int .i64 (turnLo O.1 O.2), .int .i64 (turnHi O.1 O.2)])) (by simp [results, Tryz.results111, go_sem]) rfl ⟨by rw [hO], lay_ex _ _⟩

set_option maxHeartbeats 4000000 in
set_option maxRecDepth 100000 in
theorem ref14_Dec (v : Value) (t : TrkV) (lo hi : Int) (w : World) (hv : Trk w v t) (hg : GD t) (l0 : 0 ≤ lo) (l1 : lo ≤ 86400000) (h0 : 0 ≤ hi) (h1 : hi ≤ 86400000) :
    Calls Tryz.prog 112 #[v, .int .i64 lo, .int .i64 hi] w fun e w' => e = .returned (.agg #[.int .i64 (mx (decO t lo hi).1 (-5400000)), .int .i64 (mn (decO t lo hi).2 5400000)]) ∧ ∃ d, w' = bw w d := by
  obtain ⟨vg, vd, hvv, -⟩ := id hv
  subst hvv
  have HV := Lib.hid (fun L => hv.lay L)
  have HG := Lib.hid hg
  have HM := Lib.hid (fun L => ref14_Margin _ t (lay w L) (hv.lay L) hg)
  refine lay_start ?_
  go_enter Tryz.func112, Tryz.ntmps112
  go_wp2_with fail
  refine region_mixP [(0, 0), (2, 0), (3, 0), (4, 0), (1, 1), (5, 0)] (by kernel_rfl) (by kernel_rfl) (by kernel_rfl) (by kernel_rfl) (by decide) (by kernel_rfl) ?_
  simp only [List.drop_succ_cons, List.drop_zero, List.length_cons, List.length_nil, Nat.reduceAdd]
  iterate 4 (refine wpMP_quiet rfl (fun K hK => ?_); go_simp; refine hK _ ?_; clear hK K)
  refine wpMP_special rfl (fun K hK d0 => ?_)
  go_simp
  refine (ref14_Declinations _ t _ (HV.out _) (by rw [HG.out.ld]; decide) (by rw [HG.out.ld]; decide) HG.out.bd).mono ?_
  rintro e w' ⟨v', da, rfl, rfl, hown⟩
  rw [HG.out.ld] at hown
  obtain ⟨g, cp, rfl⟩ := row_form hown (by decide)
  have hR : Row (lay w [.inr da, .inr d0, .inl (.cells #[.int .i64 0, .int .i64 0] 26 (0, 0)), .inl (.cells #[.string t.s, vg, vd, .int .i64 t.p, .int .i64 t.q, .int .i64 t.r] 126 (0, 0))]) g (dcl t.d) := row_of hown (fun k hk => by simp [dec100, dcl, hk]) (dcl_ok HG.out)
  clear hown
  refine ⟨_, rfl, ?_⟩
  go_simp
  refine hK _ _ (lay_in w [_, _] _) ?_
  clear hK K
  refine wpMP_quiet rfl (fun K hK => ?_)
  go_simp
  apply Exists.intro
  refine ⟨fun _ => ?_, hK _ ?_⟩
  · exact bq (HM.out _) (fun d => ⟨d, rfl⟩)
  clear hK K
  refine wpMP_nil ?_
  intro d1
  rw [lay_bw]
  have HO := Lib.hid (fun x => ref14_Over (dcl t.d) g cp lo hi t.r _ (hR.cons x) l0 l1 h0 h1 HG.out.r0 HG.out.r1)
  rw [show ovr (arcA (dcl t.d)) lo hi t.r = decO t lo hi from rfl] at HO
  obtain ⟨O, hO⟩ : ∃ O, decO t lo hi = O := ⟨_, rfl⟩
  rw [hO] at HO
  clear hR
  go_wp2_with (first | (go_at_call 150; refine (HO.out _).mono ?_; rintro e w' ⟨rfl, d, rfl⟩) | (go_at_call 108; refine (ref13_Latitude _ _ _).mono ?_; rintro e w' ⟨rfl, d, rfl⟩))
  exact bodyPost_ret (v := (.agg #[.int .i64 (mx O.1 (-5400000)), .int .i64 (mn O.2 5400000)])) (by simp [results, Tryz.results112, go_sem]) rfl ⟨by rw [hO], lay_ex _ _⟩
end Go.Proofs.YthjfadfebhjhbaaGreat
