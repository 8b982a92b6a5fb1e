/- Contracts and plain laws, several texts in one: Rv; As7; As8; As9 -/
import Derived.Test.YthjfadfebhjhbaaGreatProg
import Derived.WalkKit
import Derived.WalkSpells
import Derived.WalkLawsBesides
import Derived.Lib.Hide
import Derived.BigQuiet
import Derived.Test.YthjfadfebhjhbaaGreatQAA
import Derived.Test.YthjfadfebhjhbaaGreatQAB
import Derived.Test.YthjfadfebhjhbaaGreatQBF
import Derived.Test.YthjfadfebhjhbaaGreatQBH
/- The reference's quick sine of any angle, its floor, its ends. -/
namespace Go.Proofs.YthjfadfebhjhbaaGreat
open Go.RowKit

set_option maxHeartbeats 4000000 in
set_option maxRecDepth 100000 in
theorem r6_Quick (n : Int) (w : World) :
    Calls Tryz.prog 247 #[.int .i64 n] w fun e w' => e = .returned (.int .i64 (qckV n)) ∧ ∃ d, w' = bw w d := by
  refine lay_start ?_
  have hc := tmod_turn n
  obtain ⟨t, ht⟩ : ∃ t, n.tmod 21600000 = t := ⟨_, rfl⟩
  rw [ht] at hc
  unfold qckV
  obtain ⟨m, hm⟩ : ∃ m, n % 21600000 = m := ⟨_, rfl⟩
  rw [hm] at hc ⊢
  have hm2 : 0 ≤ m ∧ m < 21600000 := by omega
  have kt : IntKind.i64.wrap t = t := IntWalk.i64_in _ (by omega)
  have km : IntKind.i64.wrap m = m := IntWalk.i64_in _ (by omega)
  have eq : m.tdiv 5400000 = m / 5400000 := Int.tdiv_eq_ediv_of_nonneg hm2.1
  have er : m.tmod 5400000 = m % 5400000 := Int.tmod_eq_emod_of_nonneg hm2.1
  have hqr : 5400000 * (m / 5400000) + m % 5400000 = m := by omega
  obtain ⟨q, hq⟩ : ∃ q, m / 5400000 = q := ⟨_, rfl⟩
  obtain ⟨r, hr⟩ : ∃ r, m % 5400000 = r := ⟨_, rfl⟩
  rw [hq, hr] at hqr ⊢
  rw [hq] at eq
  rw [hr] at er
  have hq2 : 0 ≤ q ∧ q ≤ 3 := by omega
  have hr2 : 0 ≤ r ∧ r < 5400000 := by omega
  have kr : IntKind.i64.wrap r = r := IntWalk.i64_in _ (by omega)
  obtain ⟨s, hs⟩ : ∃ s, 5400000 - r = s := ⟨_, rfl⟩
  have ks : IntKind.i64.wrap s = s := IntWalk.i64_in _ (by omega)
  rw [hs]
  have hst : t = m ∧ ¬ t < 0 ∨ t < 0 ∧ t + 21600000 = m := by omega
  by_cases hb : 2700000 < r
  · rw [if_pos hb]
    have Hq : ∀ c, Hid (∀ W, Calls Tryz.prog 273 #[.int .i64 s, .bool c] W fun e w' => e = .returned (.int .i64 (qkV s.toNat c)) ∧ ∃ d, w' = bw W d) := fun c => Lib.hid fun W => by
      have := r6_quick s.toNat c W (by omega)
      rwa [show ((s.toNat : Nat) : Int) = s by omega] at this
    have hv : ∀ c, -4611686018427388904 ≤ qkV s.toNat c ∧ qkV s.toNat c ≤ 4611686018427388904 := fun c => qkV_bd (by omega)
    have g := decide_eq_true hb
    generalize s.toNat = sn at *
    clear hm2 hc hqr hr2
    have hq4 : (q = 0 ∨ q = 2) ∨ (q = 1 ∨ q = 3) := by omega
    rcases hq4 with hq4 | hq4
    · have H := Hq true
      have hvv := hv true
      clear Hq hv hq hq2
      rcases hq4 with rfl | rfl
      all_goals
        simp only [Int.reduceMod, Int.reduceEq, decide_false, Bool.not_false, Int.reduceLE, if_true, if_false]
        generalize qkV sn true = V at *
        have kV : IntKind.i64.wrap (-V) = -V := IntWalk.i64_in _ (by omega)
        clear hvv
        rcases hst with ⟨rfl, h1⟩ | ⟨h1, h2⟩
        all_goals
          go_enter Tryz.func247, Tryz.ntmps247
          go_wp2_with (go_at_call 273; refine (H.out _).mono ?_; rintro e w' ⟨rfl, d1, rfl⟩)
          go_ret
          exact ⟨rfl, lay_ex _ _⟩
    · have H := Hq false
      have hvv := hv false
      clear Hq hv hq hq2
      rcases hq4 with rfl | rfl
      all_goals
        simp only [Int.reduceMod, decide_true, Bool.not_true, Int.reduceLE, if_true, if_false]
        generalize qkV sn false = V at *
        have kV : IntKind.i64.wrap (-V) = -V := IntWalk.i64_in _ (by omega)
        clear hvv
        rcases hst with ⟨rfl, h1⟩ | ⟨h1, h2⟩
        all_goals
          go_enter Tryz.func247, Tryz.ntmps247
          go_wp2_with (go_at_call 273; refine (H.out _).mono ?_; rintro e w' ⟨rfl, d1, rfl⟩)
          go_ret
          exact ⟨rfl, lay_ex _ _⟩
  · rw [if_neg hb]
    have Hq : ∀ c, Hid (∀ W, Calls Tryz.prog 273 #[.int .i64 r, .bool c] W fun e w' => e = .returned (.int .i64 (qkV r.toNat c)) ∧ ∃ d, w' = bw W d) := fun c => Lib.hid fun W => by
      have := r6_quick r.toNat c W (by omega)
      rwa [show ((r.toNat : Nat) : Int) = r by omega] at this
    have hv : ∀ c, -4611686018427388904 ≤ qkV r.toNat c ∧ qkV r.toNat c ≤ 4611686018427388904 := fun c => qkV_bd (by omega)
    have g := decide_eq_false hb
    generalize r.toNat = sn at *
    clear hm2 hc hqr hr2
    have hq4 : (q = 0 ∨ q = 2) ∨ (q = 1 ∨ q = 3) := by omega
    rcases hq4 with hq4 | hq4
    · have H := Hq false
      have hvv := hv false
      clear Hq hv hq hq2
      rcases hq4 with rfl | rfl
      all_goals
        simp only [Int.reduceMod, Int.reduceEq, decide_false, Int.reduceLE, if_true, if_false]
        generalize qkV sn false = V at *
        have kV : IntKind.i64.wrap (-V) = -V := IntWalk.i64_in _ (by omega)
        clear hvv
        rcases hst with ⟨rfl, h1⟩ | ⟨h1, h2⟩
        all_goals
          go_enter Tryz.func247, Tryz.ntmps247
          go_wp2_with (go_at_call 273; refine (H.out _).mono ?_; rintro e w' ⟨rfl, d1, rfl⟩)
          go_ret
          exact ⟨rfl, lay_ex _ _⟩
    · have H := Hq true
      have hvv := hv true
      clear Hq hv hq hq2
      rcases hq4 with rfl | rfl
      all_goals
        simp only [Int.reduceMod, decide_true, Int.reduceLE, if_true, if_false]
        generalize qkV sn true = V at *
        have kV : IntKind.i64.wrap (-V) = -V := IntWalk.i64_in _ (by omega)
        clear hvv
        rcases hst with ⟨rfl, h1⟩ | ⟨h1, h2⟩
        all_goals
          go_enter Tryz.func247, Tryz.ntmps247
          go_wp2_with (go_at_call 273; refine (H.out _).mono ?_; rintro e w' ⟨rfl, d1, rfl⟩)
          go_ret
          exact ⟨rfl, lay_ex _ _⟩
set_option maxHeartbeats 1000000 in
set_option maxRecDepth 100000 in
theorem r6_Floor (n : Int) (w : World) :
    Calls Tryz.prog 216 #[.int .i64 n] w fun e w' => e = .returned (.tuple #[.int .i64 (bLo n), .bool (exaQ (foldT n))]) ∧ ∃ d, w' = bw w d := by
  have HE := Lib.hid (fun W => r6_Exact n W)
  have HQ := Lib.hid (fun W => r6_Quick n W)
  have hcl := @qck_cell n
  refine lay_start ?_
  generalize exaQ (foldT n) = x at *
  generalize qckV n = v at *
  have hbl := bLo_in n
  generalize bLo n = b at *
  cases x
  · obtain ⟨h1, h2⟩ := hcl rfl
    rw [if_neg (by decide)] at HE
    obtain ⟨v1, hv1⟩ : ∃ v1, v - 256 = v1 := ⟨_, rfl⟩
    obtain ⟨v2, hv2⟩ : ∃ v2, v + 256 = v2 := ⟨_, rfl⟩
    have k1 : IntKind.i64.wrap v1 = v1 := IntWalk.i64_in _ (by omega)
    have k2 : IntKind.i64.wrap v2 = v2 := IntWalk.i64_in _ (by omega)
    have s1 : v1 / 4294967296 = b := by omega
    have s2 : v2 / 4294967296 = b := by omega
    have s3 : v / 4294967296 = b := by omega
    clear h1 h2 hcl
    go_enter Tryz.func216, Tryz.ntmps216
    go_wp2_with (first | (go_at_call 246; refine (HE.out _).mono ?_; rintro e w' ⟨rfl, d1, rfl⟩) | (go_at_call 247; refine (HQ.out _).mono ?_; rintro e w' ⟨rfl, d2, rfl⟩))
    go_ret2
    exact ⟨rfl, lay_ex _ _⟩
  · rw [if_pos rfl] at HE
    clear hcl
    go_enter Tryz.func216, Tryz.ntmps216
    go_wp2_with (first | (go_at_call 246; refine (HE.out _).mono ?_; rintro e w' ⟨rfl, d1, rfl⟩))
    go_ret2
    exact ⟨rfl, lay_ex _ _⟩
set_option maxHeartbeats 1000000 in
set_option maxRecDepth 100000 in
theorem r6_ends (n : Int) (w : World) :
    Calls Tryz.prog 222 #[.int .i64 n] w fun e w' => e = .returned (.tuple #[.int .i64 (bLo n), .int .i64 (bHi n)]) ∧ ∃ d, w' = bw w d := by
  have HF := Lib.hid (fun W => r6_Floor n W)
  have h1 := @bb_no n
  have h2 := @bb_ex n
  have hbl := bLo_in n
  refine lay_start ?_
  generalize exaQ (foldT n) = x at *
  generalize bLo n = b at *
  generalize bHi n = c at *
  cases x
  · have e := (h1 rfl).1
    subst e
    clear h1 h2
    have k1 : IntKind.i64.wrap (b + 1) = b + 1 := IntWalk.i64_in _ (by omega)
    go_enter Tryz.func222, Tryz.ntmps222
    go_wp2_with (go_at_call 216; refine (HF.out _).mono ?_; rintro e w' ⟨rfl, d1, rfl⟩)
    go_ret2
    exact ⟨rfl, lay_ex _ _⟩
  · have e := (h2 rfl).1
    subst e
    clear h1 h2
    go_enter Tryz.func222, Tryz.ntmps222
    go_wp2_with (go_at_call 216; refine (HF.out _).mono ?_; rintro e w' ⟨rfl, d1, rfl⟩)
    go_ret2
    exact ⟨rfl, lay_ex _ _⟩
end Go.Proofs.YthjfadfebhjhbaaGreat
/- The reference's arcsines: Below, Rough, guess, Floor, Ceil. -/
namespace Go.Proofs.YthjfadfebhjhbaaGreat
open Go.RowKit

def belR (n v : Int) : Int := if exaQ (foldT n) = true ∧ bLo n = v then 0 else if v ≤ bLo n then 1 else -1
theorem belR_iff (n v : Int) : belR n v ≤ 0 ↔ bHi n ≤ v := by
  unfold belR
  cases h : exaQ (foldT n)
  · have hb := (bb_no h).1
    rw [if_neg (by simp)]
    split <;> omega
  · have hb := (bb_ex h).1
    by_cases c : bLo n = v
    · rw [if_pos ⟨rfl, c⟩]; omega
    · rw [if_neg (fun g => c g.2)]
      split <;> omega
theorem r6_Below (n v : Int) (w : World) :
    Calls Tryz.prog 174 #[.int .i64 n, .int .i64 v] w fun e w' => e = .returned (.int .i64 (belR n v)) ∧ ∃ d, w' = bw w d := by
  have HF := Lib.hid (fun W => r6_Floor n W)
  unfold belR
  generalize exaQ (foldT n) = x at *
  generalize bLo n = b at *
  cases x
  · by_cases c : v ≤ b
    · rw [if_neg (by simp), if_pos c]
      refine lay_start ?_
      go_enter Tryz.func174, Tryz.ntmps174
      go_wp2_with (go_at_call 216; refine (HF.out _).mono ?_; rintro e w' ⟨rfl, d1, rfl⟩; rw [lay_bw])
      go_ret
      exact ⟨rfl, lay_ex _ _⟩
    · rw [if_neg (by simp), if_neg c]
      refine lay_start ?_
      go_enter Tryz.func174, Tryz.ntmps174
      go_wp2_with (go_at_call 216; refine (HF.out _).mono ?_; rintro e w' ⟨rfl, d1, rfl⟩; rw [lay_bw])
      go_ret
      exact ⟨rfl, lay_ex _ _⟩
  · by_cases c0 : b = v
    · have e1 : (b == v) = true := beq_iff_eq.2 c0
      rw [if_pos ⟨rfl, c0⟩]
      refine lay_start ?_
      go_enter Tryz.func174, Tryz.ntmps174
      go_wp2_with (go_at_call 216; refine (HF.out _).mono ?_; rintro e w' ⟨rfl, d1, rfl⟩; rw [lay_bw])
      go_ret
      exact ⟨rfl, lay_ex _ _⟩
    · have e1 : (b == v) = false := beq_eq_false_iff_ne.2 c0
      rw [if_neg (fun g => c0 g.2)]
      by_cases c : v ≤ b
      · rw [if_pos c]
        refine lay_start ?_
        go_enter Tryz.func174, Tryz.ntmps174
        go_wp2_with (go_at_call 216; refine (HF.out _).mono ?_; rintro e w' ⟨rfl, d1, rfl⟩; rw [lay_bw])
        go_ret
        exact ⟨rfl, lay_ex _ _⟩
      · rw [if_neg c]
        refine lay_start ?_
        go_enter Tryz.func174, Tryz.ntmps174
        go_wp2_with (go_at_call 216; refine (HF.out _).mono ?_; rintro e w' ⟨rfl, d1, rfl⟩; rw [lay_bw])
        go_ret
        exact ⟨rfl, lay_ex _ _⟩
set_option maxRecDepth 100000 in
theorem r7_Rough0 (n : Int) (h0 : 0 ≤ n) (w : World) :
    Calls Tryz.prog 215 #[.int .i64 n] w fun e w' => (∃ r : Int, e = .returned (.int .i64 r)) ∧ ∃ d, w' = bw w d := by
  have h1 : ¬ n < 0 := by omega
  refine lay_start ?_
  go_enter Tryz.func215, Tryz.ntmps215
  go_wp2_with fail
  go_loopw [5, 6] (fun v5 v6 wr => ∃ (t k : Int), v5 = .int .i64 t ∧ v6 = .int .i64 k ∧ wr = lay w [] ∧ (k = 1 ∨ k = 3 ∨ k = 5 ∨ k = 7 ∨ k = 9 ∨ k = 11 ∨ k = 13)) (fun _ v6 _ => (intOf v6 + 5).toNat)
  case atStart => exact ⟨_, _, rfl, rfl, rfl, by decide⟩
  case round =>
    obtain ⟨t, k, rfl, rfl, hw, hk⟩ := hrel
    rw [hw]
    rcases hk with rfl | rfl | rfl | rfl | rfl | rfl | rfl
    · go_wp2_with fail
      go_ret
      exact ⟨⟨_, rfl⟩, lay_ex _ _⟩
    all_goals
      go_wp2_with fail
      exact ⟨⟨_, _, rfl, rfl, by first | trivial | rfl, by decide⟩, by simp only [intOf]; decide⟩
set_option maxRecDepth 100000 in
theorem r7_Rough (n : Int) (h0 : -5400000 ≤ n) (w : World) :
    Calls Tryz.prog 215 #[.int .i64 n] w fun e w' => (∃ r : Int, e = .returned (.int .i64 r)) ∧ ∃ d, w' = bw w d := by
  by_cases h : 0 ≤ n
  · exact r7_Rough0 n h w
  · have HR := Lib.hid (fun W => r7_Rough0 (-n) (by omega) W)
    have h1 : n < 0 := by omega
    have k1 : IntKind.i64.wrap (-n) = -n := IntWalk.i64_in _ (by omega)
    obtain ⟨m, hm⟩ : ∃ m, -n = m := ⟨_, rfl⟩
    rw [hm] at HR
    have k2 : IntKind.i64.wrap (-n) = m := k1.trans hm
    clear hm h h0 k1
    refine lay_start ?_
    go_enter Tryz.func215, Tryz.ntmps215
    go_wp2_with (go_at_call 215; refine (HR.out _).mono ?_; rintro e w' ⟨⟨r, rfl⟩, d1, rfl⟩; rw [lay_bw])
    go_ret
    exact ⟨⟨_, rfl⟩, lay_ex _ _⟩
set_option maxRecDepth 100000 in
theorem r7_guess (v : Int) (w : World) :
    Calls Tryz.prog 173 #[.int .i64 v] w fun e w' => (∃ r : Int, e = .returned (.int .i64 r) ∧ -5400000 ≤ r ∧ r ≤ 5400000) ∧ ∃ d, w' = bw w d := by
  have HB := Lib.hid (fun n h W => r7_Rough n h W)
  refine lay_start ?_
  go_enter Tryz.func173, Tryz.ntmps173
  go_wp2_with fail
  go_loopw [3, 4] (fun v3 v4 wr => ∃ (l h : Int) (dd : Ext), v3 = .int .i64 l ∧ v4 = .int .i64 h ∧ wr = lay w [.inr dd] ∧ -5400000 ≤ l ∧ l ≤ h ∧ h ≤ 5400000) (fun v3 v4 _ => (intOf v4 - intOf v3).toNat)
  case atStart => exact ⟨-5400000, 5400000, noExt _, rfl, rfl, (bw_noExt _).symm, by decide, by decide, by decide⟩
  case round =>
    obtain ⟨l, h, dd, rfl, rfl, rfl, hl, hlh, hh⟩ := hrel
    by_cases c : l < h
    · obtain ⟨X, hX⟩ : ∃ X, h - l = X := ⟨_, rfl⟩
      obtain ⟨Y, hY⟩ : ∃ Y, X + 1 = Y := ⟨_, rfl⟩
      have k1 : IntKind.i64.wrap (h - l) = X := by rw [hX]; exact IntWalk.i64_in _ (by omega)
      have k2 : IntKind.i64.wrap (X + 1) = Y := by rw [hY]; exact IntWalk.i64_in _ (by omega)
      have hq : Y.tdiv 2 = Y / 2 := Int.tdiv_eq_ediv_of_nonneg (by omega)
      obtain ⟨q, hq2⟩ : ∃ q, Y / 2 = q := ⟨_, rfl⟩
      rw [hq2] at hq
      have hq3 : 1 ≤ q ∧ q ≤ h - l := by omega
      have k3 : IntKind.i64.wrap q = q := IntWalk.i64_in _ (by omega)
      obtain ⟨m, hm⟩ : ∃ m, l + q = m := ⟨_, rfl⟩
      have k4 : IntKind.i64.wrap (l + q) = m := by rw [hm]; exact IntWalk.i64_in _ (by omega)
      have k5 : IntKind.i64.wrap (m - 1) = m - 1 := IntWalk.i64_in _ (by omega)
      have HLH := Lib.hid (And.intro hl (And.intro hh (And.intro hlh (show l < m ∧ m ≤ h by omega))))
      have HBm := Lib.hid (fun W => HB.out m (by omega) W)
      clear hX hY hl hlh hh hm hq2 hq3 HB
      go_wp2_with (go_at_call 215; refine (HBm.out _).mono ?_; rintro e w' ⟨⟨r, rfl⟩, d1, rfl⟩; rw [lay_bw])
      · obtain ⟨g1, g2, g3, g4, g5⟩ := HLH.out
        rename_i d1 _
        obtain ⟨de, hde⟩ := lay_all w [.inr d1, .inr dd]
        exact ⟨⟨_, _, de, rfl, rfl, hde, by omega, by omega, by omega⟩, by simp only [intOf]; omega⟩
      · obtain ⟨g1, g2, g3, g4, g5⟩ := HLH.out
        rename_i d1 _
        obtain ⟨de, hde⟩ := lay_all w [.inr d1, .inr dd]
        exact ⟨⟨_, _, de, rfl, rfl, hde, by omega, by omega, by omega⟩, by simp only [intOf]; omega⟩
    · have HLH := Lib.hid (And.intro hl hh)
      have HH := Lib.hid hlh
      clear hl hh hlh
      go_wp2_with fail
      go_ret
      exact ⟨⟨_, rfl, HLH.out.1, by have := HLH.out.2; have := HH.out; omega⟩, lay_ex _ _⟩
end Go.Proofs.YthjfadfebhjhbaaGreat
/- The reference's arcsines: Floor. -/
namespace Go.Proofs.YthjfadfebhjhbaaGreat
open Go.RowKit

set_option maxHeartbeats 4000000 in
set_option maxRecDepth 100000 in
theorem r7_Floor (v : Int) (hv : -1073741824 ≤ v) (w : World) :
    Calls Tryz.prog 136 #[.int .i64 v] w fun e w' => e = .returned (.int .i64 (asnI v)) ∧ ∃ d, w' = bw w d := by
  have HB := Lib.hid (fun n W => r6_Below n v W)
  have HG := Lib.hid (fun W => r7_guess v W)
  obtain ⟨R, hR⟩ : ∃ R, asnI v = R := ⟨_, rfl⟩
  have HR : Hid (∀ r, IsAsn v r → R = r) := Lib.hid fun r h => by rw [← hR]; exact asnI_eq h
  rw [hR]
  have HV := Lib.hid hv
  clear hR hv
  refine lay_start ?_
  go_enter Tryz.func136, Tryz.ntmps136
  go_wp2_with (go_at_call 173; refine (HG.out _).mono ?_; rintro e w' ⟨⟨r0, rfl, hr1, hr2⟩, d0, rfl⟩; rw [lay_bw])
  go_loopw [3, 4] (fun v3 v4 wr => ∃ (l s : Int) (dd : Ext), v3 = .int .i64 l ∧ v4 = .int .i64 s ∧ wr = lay w [.inr dd] ∧ -5400000 ≤ l ∧ l ≤ 5400000 ∧ 1 ≤ s ∧ s ≤ 21600002 ∧ (l = -5400000 ∨ s ≤ 5400001 - l)) (fun v3 _ _ => (intOf v3 + 5400000).toNat)
  case atStart => exact ⟨r0, 1, d0, rfl, rfl, rfl, hr1, hr2, by decide, by decide, .inr (by omega)⟩
  case round =>
    obtain ⟨l, s, dd, rfl, rfl, rfl, hl, hl2, hs, hs2, hd⟩ := hrel
    have HI := belR_iff l v
    have HBl := Lib.hid (fun W => HB.out l W)
    generalize belR l v = r at *
    by_cases cb : 0 < r
    · have hne : l ≠ -5400000 := fun e => by
        subst e
        rw [b_bot] at HI
        have := HI.2 HV.out
        omega
      have hd2 : s ≤ 5400001 - l := by omega
      obtain ⟨m, hm⟩ : ∃ m, l - s = m := ⟨_, rfl⟩
      have k1 : IntKind.i64.wrap (l - s) = m := by rw [hm]; exact IntWalk.i64_in _ (by omega)
      have k2 : IntKind.i64.wrap (2 * s) = 2 * s := IntWalk.i64_in _ (by omega)
      have HF := Lib.hid (And.intro hl (And.intro hl2 (And.intro hs (And.intro hd2 (And.intro hm hne)))))
      clear HI hl hl2 hs hs2 hd hne hd2 hm
      by_cases cm : m < -5400000
      · go_wp2_with (go_at_call 174; refine (HBl.out _).mono ?_; rintro e w' ⟨rfl, d1, rfl⟩; rw [lay_bw])
        obtain ⟨f1, f2, f3, f4, f5, f6⟩ := HF.out
        obtain ⟨de, hde⟩ := lay_all w [.inr d1, .inr dd]
        exact ⟨⟨_, _, de, rfl, rfl, hde, by decide, by decide, by omega, by omega, .inl rfl⟩, by simp only [intOf]; omega⟩
      · go_wp2_with (go_at_call 174; refine (HBl.out _).mono ?_; rintro e w' ⟨rfl, d1, rfl⟩; rw [lay_bw])
        obtain ⟨f1, f2, f3, f4, f5, f6⟩ := HF.out
        obtain ⟨de, hde⟩ := lay_all w [.inr d1, .inr dd]
        exact ⟨⟨_, _, de, rfl, rfl, hde, by omega, by omega, by omega, by omega, .inr (by omega)⟩, by simp only [intOf]; omega⟩
    · have hle : bHi l ≤ v := HI.1 (by omega)
      have kl : IntKind.i64.wrap (l + 1) = l + 1 := IntWalk.i64_in _ (by omega)
      have HF := Lib.hid (And.intro hl (And.intro hl2 hle))
      clear HI hl hl2 hs hs2 hd hle HG hr1 hr2
      go_wp2_with (go_at_call 174; refine (HBl.out _).mono ?_; rintro e w' ⟨rfl, d1, rfl⟩; rw [lay_bw])
      clear HBl cb
      obtain ⟨de, hde⟩ := lay_all w [.inr d1, .inr dd]
      rw [hde]
      clear hde
      go_loopw [3, 5, 6] (fun v3 v5 v6 wr => ∃ (a b s : Int) (dd : Ext), v3 = .int .i64 a ∧ v5 = .int .i64 b ∧ v6 = .int .i64 s ∧ wr = lay w [.inr dd] ∧ -5400000 ≤ a ∧ a ≤ 5400000 ∧ a < b ∧ b ≤ 27000009 ∧ bHi a ≤ v ∧ (a < 5400000 → b ≤ 5400000) ∧ 1 ≤ s ∧ (s ≤ b + 5400001 ∨ (b = 5400000 ∧ s ≤ 21600004) ∨ 5400000 < b)) (fun v3 _ _ _ => (5400000 - intOf v3).toNat)
      case atStart =>
        obtain ⟨f1, f2, f3⟩ := HF.out
        exact ⟨_, _, 1, de, rfl, rfl, rfl, rfl, f1, f2, by omega, by omega, f3, by omega, by decide, .inl (by omega)⟩
      case round =>
        clear HF kl
        obtain ⟨a, b, s, de, rfl, rfl, rfl, rfl, ha, ha2, hab, hb2, hva, hk, hs, hd⟩ := hrel
        have HI := belR_iff b v
        have HBb := Lib.hid (fun W => HB.out b W)
        generalize belR b v = r at *
        by_cases c1 : b ≤ 5400000
        · by_cases c2 : r ≤ 0
          · have hvb := HI.1 c2
            obtain ⟨x, hx⟩ : ∃ x, b + s = x := ⟨_, rfl⟩
            have hs3 : s ≤ 21600004 := by omega
            have k1 : IntKind.i64.wrap (b + s) = x := by rw [hx]; exact IntWalk.i64_in _ (by omega)
            have k2 : IntKind.i64.wrap (2 * s) = 2 * s := IntWalk.i64_in _ (by omega)
            have HF := Lib.hid (And.intro ha (And.intro hab (And.intro hvb (And.intro hs (And.intro hd (And.intro hx c1))))))
            clear HI ha ha2 hab hb2 hva hk hs hd hx hvb hs3
            by_cases c3 : b < 5400000
            · by_cases c4 : 5400000 < x
              · go_wp2_with (go_at_call 174; refine (HBb.out _).mono ?_; rintro e w' ⟨rfl, d1, rfl⟩; rw [lay_bw])
                obtain ⟨f1, f2, f3, f4, f5, f6, f7⟩ := HF.out
                obtain ⟨df, hdf⟩ := lay_all w [.inr d1, .inr de]
                exact ⟨⟨_, _, _, df, rfl, rfl, rfl, hdf, by omega, by omega, by omega, by omega, f3, by omega, by omega, .inr (.inl ⟨rfl, by omega⟩)⟩, by simp only [intOf]; omega⟩
              · go_wp2_with (go_at_call 174; refine (HBb.out _).mono ?_; rintro e w' ⟨rfl, d1, rfl⟩; rw [lay_bw])
                obtain ⟨f1, f2, f3, f4, f5, f6, f7⟩ := HF.out
                obtain ⟨df, hdf⟩ := lay_all w [.inr d1, .inr de]
                exact ⟨⟨_, _, _, df, rfl, rfl, rfl, hdf, by omega, by omega, by omega, by omega, f3, by omega, by omega, .inl (by omega)⟩, by simp only [intOf]; omega⟩
            · go_wp2_with (go_at_call 174; refine (HBb.out _).mono ?_; rintro e w' ⟨rfl, d1, rfl⟩; rw [lay_bw])
              obtain ⟨f1, f2, f3, f4, f5, f6, f7⟩ := HF.out
              obtain ⟨df, hdf⟩ := lay_all w [.inr d1, .inr de]
              exact ⟨⟨_, _, _, df, rfl, rfl, rfl, hdf, by omega, by omega, by omega, by omega, f3, by omega, by omega, .inr (.inr (by omega))⟩, by simp only [intOf]; omega⟩
          · have hvb : v < bHi b := by omega
            clear HI hs hd
            by_cases c3 : a = 5400000
            · have hR := HR.out a ⟨ha, ha2, hva, .inl c3⟩
              have e1 : (a == 5400000) = true := beq_iff_eq.2 c3
              have HF := Lib.hid (And.intro hab c1)
              clear hva hk ha ha2 hab hb2
              subst hR
              exact absurd HF.out.1 (by have := HF.out.2; omega)
            · have hR : Hid (∀ r, IsAsn v r → R = r) := HR
              have e1 : (a == 5400000) = false := beq_eq_false_iff_ne.2 c3
              have HF := Lib.hid (And.intro ha (And.intro hab (And.intro c1 (And.intro hva hvb))))
              clear hva hk ha ha2 hab hb2 hvb
              go_wp2_with (go_at_call 174; refine (HBb.out _).mono ?_; rintro e w' ⟨rfl, d1, rfl⟩; rw [lay_bw])
              clear HBb c1 c2 c3 e1
              obtain ⟨df, hdf⟩ := lay_all w [.inr d1, .inr de]
              rw [hdf]
              clear hdf
              go_loopw [3, 5] (fun v3 v5 wr => ∃ (l h : Int) (dd : Ext), v3 = .int .i64 l ∧ v5 = .int .i64 h ∧ wr = lay w [.inr dd] ∧ -5400000 ≤ l ∧ l < h ∧ h ≤ 5400000 ∧ bHi l ≤ v ∧ v < bHi h) (fun v3 v5 _ => (intOf v5 - intOf v3).toNat)
              case atStart =>
                obtain ⟨f1, f2, f3, f4, f5⟩ := HF.out
                exact ⟨_, _, df, rfl, rfl, rfl, f1, f2, f3, f4, f5⟩
              case round =>
                clear HF
                obtain ⟨l, h, dd, rfl, rfl, rfl, hl, hlh, hh, hA, hB⟩ := hrel
                have k0 : IntKind.i64.wrap (l + 1) = l + 1 := IntWalk.i64_in _ (by omega)
                by_cases c : l + 1 < h
                · obtain ⟨X, hX⟩ : ∃ X, h - l = X := ⟨_, rfl⟩
                  have k1 : IntKind.i64.wrap (h - l) = X := by rw [hX]; exact IntWalk.i64_in _ (by omega)
                  have hq : X.tdiv 2 = X / 2 := Int.tdiv_eq_ediv_of_nonneg (by omega)
                  obtain ⟨q, hq2⟩ : ∃ q, X / 2 = q := ⟨_, rfl⟩
                  rw [hq2] at hq
                  have hq3 : 1 ≤ q ∧ q < h - l := by omega
                  have k3 : IntKind.i64.wrap q = q := IntWalk.i64_in _ (by omega)
                  obtain ⟨m, hm⟩ : ∃ m, l + q = m := ⟨_, rfl⟩
                  have k4 : IntKind.i64.wrap (l + q) = m := by rw [hm]; exact IntWalk.i64_in _ (by omega)
                  have HI := belR_iff m v
                  have HBm := Lib.hid (fun W => HB.out m W)
                  generalize belR m v = r at *
                  have HF := Lib.hid (And.intro hl (And.intro hlh (And.intro hh (And.intro hA (And.intro hB (show l < m ∧ m < h by omega))))))
                  by_cases cb : r ≤ 0
                  · have HLe := Lib.hid (HI.1 cb)
                    clear hX hl hlh hh hm hA hB hq2 hq3 HI
                    go_wp2_with (go_at_call 174; refine (HBm.out _).mono ?_; rintro e w' ⟨rfl, d1, rfl⟩; rw [lay_bw])
                    obtain ⟨f1, f2, f3, f4, f5, f6, f7⟩ := HF.out
                    obtain ⟨dg, hdg⟩ := lay_all w [.inr d1, .inr dd]
                    exact ⟨⟨_, _, dg, rfl, rfl, hdg, by omega, by omega, by omega, HLe.out, f5⟩, by simp only [intOf]; omega⟩
                  · have HLe : Hid (v < bHi m) := Lib.hid (by omega)
                    clear hX hl hlh hh hm hA hB hq2 hq3 HI
                    go_wp2_with (go_at_call 174; refine (HBm.out _).mono ?_; rintro e w' ⟨rfl, d1, rfl⟩; rw [lay_bw])
                    obtain ⟨f1, f2, f3, f4, f5, f6, f7⟩ := HF.out
                    obtain ⟨dg, hdg⟩ := lay_all w [.inr d1, .inr dd]
                    exact ⟨⟨_, _, dg, rfl, rfl, hdg, by omega, by omega, by omega, f4, HLe.out⟩, by simp only [intOf]; omega⟩
                · obtain rfl : h = l + 1 := by omega
                  have hR2 := HR.out l ⟨hl, by omega, hA, .inr hB⟩
                  clear hA hB hlh hh hl HB HR hR HV
                  subst hR2
                  go_wp2_with fail
                  go_ret
                  exact ⟨rfl, lay_ex _ _⟩
        · have haQ : a = 5400000 := by omega
          have e1 : (a == 5400000) = true := beq_iff_eq.2 haQ
          have hR := HR.out a ⟨ha, ha2, hva, .inl haQ⟩
          clear hva hk ha ha2 hab hb2 hs hd HI HB HR HV
          subst haQ
          subst hR
          go_wp2_with fail
          go_ret
          exact ⟨rfl, lay_ex _ _⟩
end Go.Proofs.YthjfadfebhjhbaaGreat
/- The reference's arcsines: Valid, Ceil, Asin, Acos, Ahav. -/
namespace Go.Proofs.YthjfadfebhjhbaaGreat
open Go.RowKit

theorem r7_Valid (lo hi : Int) (w : World) :
    Calls Tryz.prog 135 #[(.agg #[.int .i64 (lo), .int .i64 (hi)])] w fun e w' => e = .returned (.bool (fxB lo hi)) ∧ ∃ d, w' = bw w d := by
  refine lay_start ?_
  go_enter Tryz.func135, Tryz.ntmps135
  go_wp2
  all_goals go_ret
  all_goals exact ⟨ret_bool (by rw [Bool.eq_iff_iff]; simp [fxB]; omega), lay_ex _ _⟩
set_option maxRecDepth 100000 in
theorem r7_Ceil (v : Int) (hv : -1073741824 ≤ -v) (h2 : -2147483648 ≤ v) (w : World) :
    Calls Tryz.prog 137 #[.int .i64 v] w fun e w' => e = .returned (.int .i64 (-(asnI (-v)))) ∧ ∃ d, w' = bw w d := by
  have HF := Lib.hid (fun W => r7_Floor (-v) hv W)
  have hi := asnI_in hv
  obtain ⟨m, hm⟩ : ∃ m, -v = m := ⟨_, rfl⟩
  have k1 : IntKind.i64.wrap (-v) = m := by rw [hm]; exact IntWalk.i64_in _ (by omega)
  rw [hm] at HF hi
  rw [hm]
  generalize asnI m = r at *
  have k2 : IntKind.i64.wrap (-r) = -r := IntWalk.i64_in _ (by omega)
  clear hv h2 hi hm
  refine lay_start ?_
  go_enter Tryz.func137, Tryz.ntmps137
  go_wp2_with (go_at_call 136; refine (HF.out _).mono ?_; rintro e w' ⟨rfl, d1, rfl⟩; rw [lay_bw])
  go_ret
  exact ⟨rfl, lay_ex _ _⟩
set_option maxHeartbeats 1000000 in
set_option maxRecDepth 100000 in
theorem r7_Asin (lo hi : Int) (w : World) :
    Calls Tryz.prog 96 #[(.agg #[.int .i64 (lo), .int .i64 (hi)])] w fun e w' => e = .returned (.tuple #[(.agg #[.int .i64 (asL lo hi), .int .i64 (asH lo hi)]), .int .i64 (asE lo hi)]) ∧ ∃ d, w' = bw w d := by
  have HV := Lib.hid (fun W => r7_Valid lo hi W)
  unfold asL asH
  rw [asE_at]
  cases h : fxB lo hi
  · rw [h] at HV
    clear h
    rw [if_pos rfl, if_neg (show ¬ ((1 : Int) = 0) by decide), if_neg (show ¬ ((1 : Int) = 0) by decide)]
    refine lay_start ?_
    go_enter Tryz.func96, Tryz.ntmps96
    go_wp2_with (go_at_call 135; refine (HV.out _).mono ?_; rintro e w' ⟨rfl, d, rfl⟩)
    exact bodyPost_ret (v := .tuple #[(.agg #[.int .i64 (0), .int .i64 (0)]), .int .i64 1]) (by simp [results, Tryz.results96, go_sem]) rfl ⟨rfl, lay_ex _ _⟩
  · rw [h] at HV
    have hb := fxB_iff.1 h
    have hx : -1073741824 ≤ mx lo (-1073741824) := by rw [mx_eq]; omega
    have hn : mn hi 1073741824 ≤ 1073741824 := by rw [mn_eq]; omega
    have hn2 : -2147483648 ≤ mn hi 1073741824 := by rw [mn_eq]; omega
    have hd : (mn hi 1073741824 < mx lo (-1073741824)) ∨ ¬ mn hi 1073741824 < mx lo (-1073741824) := by omega
    have H1 := Lib.hid (fun W => r7_Floor (mx lo (-1073741824)) hx W)
    have H2 := Lib.hid (fun W => r7_Ceil (mn hi 1073741824) (by omega) hn2 W)
    have w1 : (lo < -1073741824 ∧ mx lo (-1073741824) = -1073741824) ∨ (¬ lo < -1073741824 ∧ mx lo (-1073741824) = lo) := by rw [mx_eq]; omega
    have w2 : (1073741824 < hi ∧ mn hi 1073741824 = 1073741824) ∨ (¬ 1073741824 < hi ∧ mn hi 1073741824 = hi) := by rw [mn_eq]; omega
    rw [if_neg (show ¬ (true = false) by decide)]
    clear h hb hx hn hn2
    generalize mx lo (-1073741824) = x at *
    generalize mn hi 1073741824 = y at *
    generalize asnI x = u at *
    generalize -(asnI (-y)) = v at *
    rcases hd with hd | hd
    · rw [if_pos hd, if_neg (show ¬ ((2 : Int) = 0) by decide), if_neg (show ¬ ((2 : Int) = 0) by decide)]
      clear H1 H2
      rcases w1 with ⟨w1, rfl⟩ | ⟨w1, rfl⟩
      all_goals rcases w2 with ⟨w2, rfl⟩ | ⟨w2, rfl⟩
      · exact False.elim (by omega)
      all_goals
        refine lay_start ?_
        go_enter Tryz.func96, Tryz.ntmps96
        go_wp2_with (first | (go_at_call 135; refine (HV.out _).mono ?_; rintro e w' ⟨rfl, d, rfl⟩))
      all_goals exact bodyPost_ret (v := .tuple #[(.agg #[.int .i64 (0), .int .i64 (0)]), .int .i64 2]) (by simp [results, Tryz.results96, go_sem]) rfl ⟨rfl, lay_ex _ _⟩
    · rw [if_neg hd, if_pos rfl, if_pos rfl]
      rcases w1 with ⟨w1, rfl⟩ | ⟨w1, rfl⟩
      all_goals rcases w2 with ⟨w2, rfl⟩ | ⟨w2, rfl⟩
      all_goals
        refine lay_start ?_
        go_enter Tryz.func96, Tryz.ntmps96
        go_wp2_with (first | (go_at_call 135; refine (HV.out _).mono ?_; rintro e w' ⟨rfl, d, rfl⟩) | (go_at_call 136; refine (H1.out _).mono ?_; rintro e w' ⟨rfl, d, rfl⟩) | (go_at_call 137; refine (H2.out _).mono ?_; rintro e w' ⟨rfl, d, rfl⟩))
      all_goals exact bodyPost_ret (v := .tuple #[(.agg #[.int .i64 (u), .int .i64 (v)]), .int .i64 0]) (by simp [results, Tryz.results96, go_sem]) rfl ⟨rfl, lay_ex _ _⟩
end Go.Proofs.YthjfadfebhjhbaaGreat
