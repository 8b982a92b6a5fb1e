/- Contracts and plain laws, several texts in one: Ne6; FgB; FgC; SnM -/
import Derived.Test.YtkhhdpndcidmgaaGreatProg
import Derived.WalkKit
import Derived.WalkSpells
import Derived.WalkLawsBesides
import Derived.Lib.Hide
import Derived.BigQuiet
import Derived.Test.YtkhhdpndcidmgaaGreatSAC
import Derived.Test.YtkhhdpndcidmgaaGreatSAD
import Derived.Test.YtkhhdpndcidmgaaGreatSAE
import Derived.Test.YtkhhdpndcidmgaaGreatSBI
import Derived.Test.YtkhhdpndcidmgaaGreatSBP
import Derived.Test.YtkhhdpndcidmgaaGreatSBW
import Derived.Test.YtkhhdpndcidmgaaGreatSBX
/- The reference's Origin and Bearing. -/
namespace Go.Proofs.YtkhhdpndcidmgaaGreat
open Go.RowKit

end Go.Proofs.YtkhhdpndcidmgaaGreat
/- The reference's Azimuth and Solve of a triangle, its Parallactic and Unknown. -/
namespace Go.Proofs.YtkhhdpndcidmgaaGreat
open Go.RowKit

end Go.Proofs.YtkhhdpndcidmgaaGreat
/- Unknown, the program's and the reference's, at all arguments; Parallactic off a bad triangle. -/
namespace Go.Proofs.YtkhhdpndcidmgaaGreat
open Go.RowKit

set_option maxRecDepth 100000 in
theorem r25_Valid (a0 a1 b0 b1 c0 c1 : Int) (w : World) :
    Calls Tryz.prog 6 #[(.agg #[.int .i64 (a0), .int .i64 (a1), .int .i64 (b0), .int .i64 (b1), .int .i64 (c0), .int .i64 (c1)])] w fun e w' => e = .returned (.bool (triB a0 a1 b0 b1 c0 c1)) ∧ ∃ d, w' = bw w d := by
  have HA := Lib.hid (fun W => ref25_Latitude a0 a1 W)
  have HB := Lib.hid (fun W => ref25_Latitude b0 b1 W)
  have HC := Lib.hid (fun W => ref05_Valid c0 c1 W)
  unfold triB
  generalize latB a0 a1 = p at *
  generalize latB b0 b1 = q at *
  generalize validB c0 c1 = r at *
  refine lay_start ?_
  cases p
  · simp only [Bool.false_and]
    go_enter Tryz.func6, Tryz.ntmps6
    go_wp2_with (first | (go_at_call 25; first | (with_reducible refine (HA.out _).mono ?_; rintro e w' ⟨rfl, d1, rfl⟩; rw [lay_bw]) | (with_reducible refine (HB.out _).mono ?_; rintro e w' ⟨rfl, d2, rfl⟩; rw [lay_bw])) | (go_at_call 26; refine (HC.out _).mono ?_; rintro e w' ⟨rfl, d3, rfl⟩; rw [lay_bw]))
    go_ret
    exact ⟨rfl, lay_ex _ _⟩
  · cases q
    · simp only [Bool.false_and, Bool.and_false]
      go_enter Tryz.func6, Tryz.ntmps6
      go_wp2_with (first | (go_at_call 25; first | (with_reducible refine (HA.out _).mono ?_; rintro e w' ⟨rfl, d1, rfl⟩; rw [lay_bw]) | (with_reducible refine (HB.out _).mono ?_; rintro e w' ⟨rfl, d2, rfl⟩; rw [lay_bw])) | (go_at_call 26; refine (HC.out _).mono ?_; rintro e w' ⟨rfl, d3, rfl⟩; rw [lay_bw]))
      go_ret
      exact ⟨rfl, lay_ex _ _⟩
    · simp only [Bool.true_and]
      go_enter Tryz.func6, Tryz.ntmps6
      go_wp2_with (first | (go_at_call 25; first | (with_reducible refine (HA.out _).mono ?_; rintro e w' ⟨rfl, d1, rfl⟩; rw [lay_bw]) | (with_reducible refine (HB.out _).mono ?_; rintro e w' ⟨rfl, d2, rfl⟩; rw [lay_bw])) | (go_at_call 26; refine (HC.out _).mono ?_; rintro e w' ⟨rfl, d3, rfl⟩; rw [lay_bw]))
      go_ret
      exact ⟨rfl, lay_ex _ _⟩
end Go.Proofs.YtkhhdpndcidmgaaGreat
/- The directions of a mirrored box: the arc mirrored. No program in sight. -/
namespace Go.Proofs.YtkhhdpndcidmgaaGreat
open Go.RowKit

theorem b_opp (n : Int) : bLo (-n) = -(bHi n) ∧ bHi (-n) = -(bLo n) := by
  have f : foldT (-n) = foldT n := by unfold foldT; split <;> split <;> split <;> split <;> omega
  by_cases h : n % 21600000 = 0 ∨ n % 21600000 = 10800000
  · have z : foldT n = 0 := by unfold foldT; split <;> split <;> omega
    have k : hiQ 0 = 0 := by unfold hiQ; rw [sinQ_0, oneQ_at, if_pos (.inl rfl)]; rfl
    rw [bLo_at, bHi_at, bLo_at, bHi_at, f, z, sinQ_0, k]
    constructor <;> split <;> split <;> rfl
  · have s : souB (-n) = !souB n := by
      unfold souB
      by_cases g : 10800000 < n % 21600000
      · rw [decide_eq_true g, decide_eq_false (by omega)]; rfl
      · rw [decide_eq_false g, decide_eq_true (by omega)]; rfl
    rw [bLo_at, bHi_at, bLo_at, bHi_at, f, s]
    cases souB n <;> simp
theorem b_reflA (n : Int) : bLo (10800000 - n) = bLo n ∧ bHi (10800000 - n) = bHi n := by
  have f : foldT (10800000 - n) = foldT n := by unfold foldT; split <;> split <;> split <;> split <;> omega
  by_cases h : n % 21600000 = 0 ∨ n % 21600000 = 10800000
  · have z : foldT n = 0 := by unfold foldT; split <;> split <;> omega
    have k : hiQ 0 = 0 := by unfold hiQ; rw [sinQ_0, oneQ_at, if_pos (.inl rfl)]; rfl
    rw [bLo_at, bHi_at, bLo_at, bHi_at, f, z, sinQ_0, k]
    constructor <;> split <;> split <;> rfl
  · have s : souB (10800000 - n) = souB n := by
      unfold souB
      by_cases g : 10800000 < n % 21600000
      · rw [decide_eq_true g, decide_eq_true (by omega)]
      · rw [decide_eq_false g, decide_eq_false (by omega)]
    rw [bLo_at, bHi_at, bLo_at, bHi_at, f, s]
    exact ⟨rfl, rfl⟩
theorem met_opp {a b n m : Int} (h : a ≤ b) (e : (n + m) % 21600000 = 0) : metB (-b) (-a) n = metB a b m := by
  unfold metB
  rw [decide_eq_decide]
  constructor <;> intro h <;> omega
theorem enc_opp {a b : Int} (h : a ≤ b) : encL (-b) (-a) = -(encH a b) ∧ encH (-b) (-a) = -(encL a b) := by
  have m1 := met_opp (n := 16200000) (m := 5400000) h (by decide)
  have m2 := met_opp (n := 5400000) (m := 16200000) h (by decide)
  rw [encL_at, encH_at, encL_at, encH_at, m1, m2, (b_opp a).1, (b_opp a).2, (b_opp b).1, (b_opp b).2]
  constructor
  · split
    · rfl
    · rw [mn_eq, mx_eq]; omega
  · split
    · rfl
    · rw [mn_eq, mx_eq]; omega
theorem cos_opp {a b : Int} (h : a ≤ b) : cosL (-b) (-a) = cosL a b ∧ cosH (-b) (-a) = cosH a b := by
  have m1 : metB (-b + 5400000) (-a + 5400000) 16200000 = metB (a + 5400000) (b + 5400000) 16200000 := by
    unfold metB
    rw [decide_eq_decide]
    constructor <;> intro h <;> omega
  have m2 : metB (-b + 5400000) (-a + 5400000) 5400000 = metB (a + 5400000) (b + 5400000) 5400000 := by
    unfold metB
    rw [decide_eq_decide]
    constructor <;> intro h <;> omega
  have e : ∀ x : Int, bLo (-x + 5400000) = bLo (x + 5400000) ∧ bHi (-x + 5400000) = bHi (x + 5400000) := fun x => by
    have := b_reflA (x + 5400000)
    rw [show 10800000 - (x + 5400000) = -x + 5400000 by omega] at this
    exact this
  unfold cosL cosH
  rw [encL_at, encH_at, encL_at, encH_at, m1, m2, (e a).1, (e a).2, (e b).1, (e b).2]
  constructor <;> split <;> first | rfl | (rw [mn_eq, mn_eq]; omega) | (rw [mx_eq, mx_eq]; omega)
theorem mul_opp (a0 a1 b0 b1 : Int) : mulL a0 a1 (-b1) (-b0) = -(mulH a0 a1 b0 b1) ∧ mulH a0 a1 (-b1) (-b0) = -(mulL a0 a1 b0 b1) := by
  have e1 : m4 a0 a1 (-b1) (-b0) = -(x4 a0 a1 b0 b1) := by
    unfold m4 x4
    simp only [mn_eq, mx_eq, Int.mul_neg]
    omega
  have e2 : x4 a0 a1 (-b1) (-b0) = -(m4 a0 a1 b0 b1) := by
    unfold m4 x4
    simp only [mn_eq, mx_eq, Int.mul_neg]
    omega
  unfold mulL mulH
  rw [e1, e2]
  omega
theorem rch_all {u v : Int} (u0 : 0 < u) (u1 : u ≤ 2147483648) (v0 : 0 ≤ v) (v1 : v ≤ 2147483648) :
    (∀ m, m ≤ bisF u v 23 0 5400000 → rchB u v m = true) ∧ ∀ m, bisF u v 23 0 5400000 < m → m < 5400000 → rchB u v m = false := by
  obtain ⟨h0, h1⟩ := bisF_is u v
  have hl := bisF_lt (u := u) (v := v) (f := 23) (l := 0) (h := 5400000) (by decide)
  generalize bisF u v 23 0 5400000 = K at *
  refine ⟨fun m hm => ?_, fun m hm hm2 => ?_⟩
  · by_cases z : m = 0
    · subst z; unfold rchB; rw [if_pos rfl]
    · rcases h0 with h0 | h0
      · omega
      · by_cases e : m = K
        · rw [e]; exact h0
        · rw [rch_side (by omega) u0 u1 v0 v1, decide_eq_true_eq] at h0 ⊢
          exact sideV_mono (k2 := K) (by omega) (by omega) u0 v0 h0
  · rcases h1 with h1 | h1
    · omega
    · by_cases e : m = K + 1
      · rw [e]; exact h1
      · rw [rch_side (by omega) u0 u1 v0 v1, decide_eq_false_iff_not] at h1 ⊢
        exact fun h => h1 (sideV_mono (k2 := m) (by omega) (by omega) u0 v0 h)
theorem sU_mir {m : Nat} (h : m < 5400000) (h0 : m ≠ 2700000) : sU (5400000 - m) = cU m ∧ cU (5400000 - m) = sU m := by
  unfold sU cU
  by_cases c : 2700000 < m
  · rw [if_pos c, if_pos c, if_neg (by omega), if_neg (by omega)]
    exact ⟨rfl, rfl⟩
  · rw [if_neg c, if_neg c, if_pos (by omega), if_pos (by omega), show 5400000 - (5400000 - m) = m by omega]
    exact ⟨rfl, rfl⟩
theorem rch_mir {u v : Int} (u0 : 0 < u) (u1 : u ≤ 2147483648) (v0 : 0 < v) (v1 : v ≤ 2147483648) {m : Nat} (h0 : 0 < m) (h1 : m < 5400000) (h2 : m ≠ 2700000) : rchB v u m = !rchB u v (5400000 - m) := by
  have hf := far_cr far_all (k := m) (by omega) (Int.le_of_lt v0) v1 (Int.le_of_lt u0) u1 (.inl (by omega))
  have e : crU (5400000 - m) u v = -(crU m v u) := by
    unfold crU
    obtain ⟨e1, e2⟩ := sU_mir h1 h2
    rw [e1, e2]; grind
  have hg : (0 : Rat) < gU := by unfold gU; grind
  rw [rch_side h1 v0 v1 (Int.le_of_lt u0) u1, rch_side (by omega) u0 u1 (Int.le_of_lt v0) v1]
  have e2 : 0 < crU (5400000 - m) u v ↔ ¬ 0 < crU m v u := by
    rw [e]
    generalize crU m v u = c at *
    constructor <;> intro <;> grind
  have l1 := side_gen_le (n := m) (by omega) h2 (by omega) v u
  have l2 := side_gen_le (n := 5400000 - m) (by omega) (by omega) (by omega) u v
  by_cases g : sideV m v u ≤ 0
  · rw [decide_eq_true g, decide_eq_false (fun h => (l2.1 h) (e2.2 (l1.1 g)))]; rfl
  · rw [decide_eq_false g, decide_eq_true (l2.2 (fun h => g (l1.2 (e2.1 h))))]; rfl
theorem bis_zero {u : Int} (u0 : 0 < u) (u1 : u ≤ 2147483648) : bisF u 0 23 0 5400000 = 0 := by
  have h := (rch_all u0 u1 (v := 0) (by decide) (by decide)).1 1
  rcases Nat.eq_zero_or_pos (bisF u 0 23 0 5400000) with e | e
  · exact e
  exfalso
  have h1 := h (by omega)
  rw [rch_side (by omega) u0 u1 (by decide) (by decide), decide_eq_true_eq, side_gen_le (by decide) (by decide) (by decide)] at h1
  refine h1 ?_
  obtain ⟨o1, -, -⟩ := one_in
  have hu := castle (show (1 : Int) ≤ u by omega)
  have e1 : sU 1 = sinU 1 := by unfold sU; rw [if_neg (by decide)]
  unfold crU
  rw [e1]
  generalize sinU 1 = s at *
  generalize cU 1 = c at *
  have p := rmul (a := 29 / 100000000) (b := s) (c := 1) (d := (u : Rat)) (by grind) o1 (by grind) (by push_cast at hu; exact hu)
  push_cast
  grind
theorem bis_mir {u v : Int} (u0 : 0 < u) (u1 : u ≤ 2147483648) (v0 : 0 < v) (v1 : v ≤ 2147483648) :
    exF v u (bisF v u 23 0 5400000) = exF u v (bisF u v 23 0 5400000) ∧ bisF v u 23 0 5400000 + bisF u v 23 0 5400000 = (if exF u v (bisF u v 23 0 5400000) = true then 5400000 else 5399999) := by
  obtain ⟨y1, n1⟩ := rch_all u0 u1 (Int.le_of_lt v0) v1
  have hl := bisF_lt (u := u) (v := v) (f := 23) (l := 0) (h := 5400000) (by decide)
  by_cases e : u = v
  · subst e
    have hh : rchB u u 2700000 = true := by unfold rchB; rw [if_neg (by decide), if_pos rfl, decide_eq_true (Int.le_refl _)]
    have hK : bisF u u 23 0 5400000 = 2700000 := by
      rcases Nat.lt_trichotomy (bisF u u 23 0 5400000) 2700000 with c | c | c
      · rw [n1 2700000 c (by decide)] at hh; exact absurd hh (by decide)
      · exact c
      · have a := y1 _ (Nat.le_refl _)
        have b := y1 (5400000 - bisF u u 23 0 5400000) (by omega)
        rw [rch_mir u0 u1 u0 u1 (by omega) hl (by omega), b] at a
        exact absurd a (by decide)
    have hx : exF u u (bisF u u 23 0 5400000) = true := by rw [hK]; unfold exF; simp
    rw [hx, if_pos rfl, hK]
    exact ⟨rfl, rfl⟩
  · have x1 : exF u v (bisF u v 23 0 5400000) = false := by
      unfold exF
      rw [decide_eq_false (by omega), decide_eq_false (by omega)]; rfl
    have x2 : exF v u (bisF v u 23 0 5400000) = false := by
      unfold exF
      rw [decide_eq_false (by omega), decide_eq_false (by omega)]; rfl
    rw [x1, x2, if_neg (by decide)]
    refine ⟨rfl, ?_⟩
    generalize bisF u v 23 0 5400000 = K at *
    have key : bisF v u 23 0 5400000 = 5399999 - K := by
      refine bisF_eq (k := 5399999 - K) (fun m hm => ?_) (fun m hm hm2 => ?_) 23 0 5400000 (by omega) (by omega) (by omega) (by decide)
      · by_cases z : m = 0
        · subst z; unfold rchB; rw [if_pos rfl]
        · by_cases g : m = 2700000
          · subst g
            have a := n1 2700000 (by omega) (by omega)
            unfold rchB at a ⊢
            rw [if_neg (by decide), if_pos rfl] at a ⊢
            rw [decide_eq_false_iff_not] at a
            rw [decide_eq_true (by omega)]
          · rw [rch_mir u0 u1 v0 v1 (by omega) (by omega) g, n1 (5400000 - m) (by omega) (by omega)]; rfl
      · by_cases g : m = 2700000
        · subst g
          have a := y1 2700000 (by omega)
          unfold rchB at a ⊢
          rw [if_neg (by decide), if_pos rfl] at a ⊢
          rw [decide_eq_true_eq] at a
          rw [decide_eq_false (by omega)]
        · rw [rch_mir u0 u1 v0 v1 (by omega) hm2 g, y1 (5400000 - m) (by omega)]; rfl
    omega
theorem ang1_mir {u v : Int} (u0 : 0 < u) (u1 : u ≤ 2147483648) (v0 : 0 < v) (v1 : v ≤ 2147483648) {T T' : Int} (hT : (T + T' + 5400000) % 21600000 = 0) (g0 : 0 ≤ T') (g1 : T' ≤ 16200000) :
    (ang1 T' v u).2 = (ang1 T u v).2 ∧ (ang1 T' v u).1 = (-(nxI (ang1 T u v))) % 21600000 := by
  obtain ⟨a, b⟩ := bis_mir u0 u1 v0 v1
  have h1 := bisF_lt (u := u) (v := v) (f := 23) (l := 0) (h := 5400000) (by decide)
  have h2 := bisF_lt (u := v) (v := u) (f := 23) (l := 0) (h := 5400000) (by decide)
  unfold nxI ang1
  dsimp only
  refine ⟨a, ?_⟩
  generalize exF u v (bisF u v 23 0 5400000) = ex at *
  generalize bisF u v 23 0 5400000 = K at *
  generalize bisF v u 23 0 5400000 = K' at *
  cases ex
  · rw [if_neg (by decide)] at b ⊢; omega
  · rw [if_pos rfl] at b ⊢; omega
theorem ang1_zero {u : Int} (u0 : 0 < u) (u1 : u ≤ 2147483648) (T : Int) : ang1 T u 0 = (T, true) := by
  unfold ang1
  rw [bis_zero u0 u1]
  refine Prod.ext ?_ ?_
  · dsimp only; omega
  · dsimp only; unfold exF; simp
def MirA (p q : Int × Bool) : Prop := q.2 = p.2 ∧ q.1 = (-(nxI p)) % 21600000
theorem mir_back {p q : Int × Bool} (h : MirA p q) (h0 : 0 ≤ p.1) (h1 : p.1 < 21600000) : MirA q p := by
  unfold MirA nxI at *
  obtain ⟨a, b⟩ := h
  rw [a]
  refine ⟨rfl, ?_⟩
  rw [b]
  split <;> omega
theorem ang_mir {X Y : Int} (h : ¬ (X = 0 ∧ Y = 0)) (hX : Bd31 X) (hY : Bd31 Y) : MirA (angF X Y) (angF X (-Y)) := by
  unfold Bd31 at *
  have key : ∀ X Y : Int, ¬ (X = 0 ∧ Y = 0) → -2147483648 ≤ X → X ≤ 2147483648 → Y ≤ 2147483648 → 0 ≤ Y → MirA (angF X Y) (angF X (-Y)) := fun X Y h X0 X1 Y1 Y0 => by
    by_cases z : Y = 0
    · subst z
      rw [Int.neg_zero]
      by_cases c : 0 < X
      · have e : angF X 0 = (0, true) := by unfold angF; rw [if_pos ⟨c, Int.le_refl _⟩]; exact ang1_zero c X1 0
        rw [e]; exact ⟨rfl, rfl⟩
      · have e : angF X 0 = (10800000, true) := by unfold angF; rw [if_neg (by omega), if_neg (by omega), if_pos (by omega)]; exact ang1_zero (by omega) (by omega) 10800000
        rw [e]; exact ⟨rfl, rfl⟩
    · by_cases c : 0 < X
      · have e1 : angF X Y = ang1 0 X Y := by unfold angF; rw [if_pos (by omega)]
        have e2 : angF X (-Y) = ang1 16200000 Y X := by unfold angF; rw [if_neg (by omega), if_neg (by omega), if_neg (by omega), Int.neg_neg]
        rw [e1, e2]
        exact ang1_mir c X1 (by omega) Y1 (by decide) (by decide) (by decide)
      · by_cases d : X = 0
        · subst d
          have e1 : angF 0 Y = (5400000, true) := by unfold angF; rw [if_neg (by omega), if_pos (by omega), Int.neg_zero]; exact ang1_zero (by omega) Y1 _
          have e2 : angF 0 (-Y) = (16200000, true) := by unfold angF; rw [if_neg (by omega), if_neg (by omega), if_neg (by omega), Int.neg_neg]; exact ang1_zero (by omega) Y1 _
          rw [e1, e2]; exact ⟨rfl, rfl⟩
        · have e1 : angF X Y = ang1 5400000 Y (-X) := by unfold angF; rw [if_neg (by omega), if_pos (by omega)]
          have e2 : angF X (-Y) = ang1 10800000 (-X) Y := by unfold angF; rw [if_neg (by omega), if_neg (by omega), if_pos (by omega), Int.neg_neg]
          rw [e1, e2]
          exact ang1_mir (by omega) Y1 (by omega) (by omega) (by decide) (by decide) (by decide)
  rcases Int.le_total 0 Y with g | g
  · exact key X Y h hX.1 hX.2 hY.2 g
  · have k := key X (-Y) (by omega) hX.1 hX.2 (by omega) (by omega)
    rw [Int.neg_neg] at k
    obtain ⟨b0, b1⟩ := angF_bd X (-Y)
    exact mir_back k b0 b1
theorem ang_far {X Y X' Y' : Int} (h : ¬ (X = 0 ∧ Y = 0)) (h' : ¬ (X' = 0 ∧ Y' = 0)) (c1 : 0 ≤ crs X Y X' Y') : ¬ ((angF X Y).1 = 0 ∧ (angF X' Y').1 = 21599999) := by
  rintro ⟨e1, e2⟩
  obtain ⟨q, a, b, k, P⟩ := quad_ex h
  obtain ⟨q', c, d, k', P'⟩ := quad_ex h'
  obtain ⟨r0, r1, r2, r3⟩ := crs_quad P P'
  have a0 := P.u0
  have b0 := P.v0
  have c0' := P'.u0
  have d0 := P'.v0
  have p1 := Int.mul_pos a0 c0'
  have p2 := Int.mul_nonneg b0 d0
  have l1 := P.lt
  have l2 := P'.lt
  rw [P.ang] at e1
  rw [P'.ang] at e2
  have := P.q0
  have := P.q3
  have := P'.q0
  have := P'.q3
  have := r3 (by omega)
  omega
end Go.Proofs.YtkhhdpndcidmgaaGreat
