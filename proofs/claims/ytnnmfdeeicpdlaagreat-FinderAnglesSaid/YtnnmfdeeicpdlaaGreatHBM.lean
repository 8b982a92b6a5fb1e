/- Contracts and plain laws, several texts in one: Ne1; Ne2; Ne3; Ne4 -/
import Derived.Test.YtnnmfdeeicpdlaaGreatProg
import Derived.WalkKit
import Derived.WalkSpells
import Derived.WalkLawsBesides
import Derived.Lib.Hide
import Derived.BigQuiet
import Derived.Test.YtnnmfdeeicpdlaaGreatHAC
import Derived.Test.YtnnmfdeeicpdlaaGreatHAD
import Derived.Test.YtnnmfdeeicpdlaaGreatHAE
import Derived.Test.YtnnmfdeeicpdlaaGreatHBB
import Derived.Test.YtnnmfdeeicpdlaaGreatHBJ
import Derived.Test.YtnnmfdeeicpdlaaGreatHBK
/- The reference's guess of a direction: Rough, direction. -/
namespace Go.Proofs.YtnnmfdeeicpdlaaGreat
open Go.RowKit

def rgS (y : Int) : Nat → Int
  | 0 => 1073741824
  | i + 1 => 1073741824 - y * rgS y i / 1073741824 / ((13 - 2 * (i : Int)) * (13 - 2 * (i : Int) - 1))
theorem rgS_in {y : Int} (y0 : 0 ≤ y) (y1 : y ≤ 2700000000) : ∀ i : Nat, i ≤ 6 → 0 ≤ rgS y i ∧ rgS y i ≤ 1073741824
  | 0, _ => ⟨show (0 : Int) ≤ 1073741824 by decide, show (1073741824 : Int) ≤ 1073741824 by decide⟩
  | i + 1, hi => by
    obtain ⟨h0, h1⟩ := rgS_in y0 y1 i (by omega)
    have p0 := Int.mul_nonneg y0 h0
    have p1 := Int.mul_le_mul y1 h1 h0 (show (0 : Int) ≤ 2700000000 by decide)
    unfold rgS
    generalize y * rgS y i = p at *
    have q : 0 ≤ p / 1073741824 ∧ p / 1073741824 ≤ 2700000000 := by omega
    have hd : ∀ {a d : Int}, 0 ≤ a → a ≤ 2700000000 → 6 ≤ d → 0 ≤ a / d ∧ a / d ≤ 450000000 := fun {a d} a0 a1 d6 =>
      ⟨Int.ediv_nonneg a0 (by omega), by
        have h1 := Int.ediv_mul_le a (show d ≠ 0 by omega)
        have h0 := Int.ediv_nonneg a0 (show 0 ≤ d by omega)
        have h2 := Int.mul_le_mul_of_nonneg_left d6 h0
        omega⟩
    have d6 : 6 ≤ (13 - 2 * (i : Int)) * (13 - 2 * (i : Int) - 1) := by
      have := Int.mul_le_mul (show (3 : Int) ≤ 13 - 2 * (i : Int) by omega) (show (2 : Int) ≤ 13 - 2 * (i : Int) - 1 by omega) (by decide) (by omega)
      omega
    have := hd q.1 q.2 d6
    omega
def rghX (n : Nat) : Int := (n : Int) * 3373259426 / 10800000
def rghY (n : Nat) : Int := rghX n * rghX n / 1073741824
def rghV (n : Nat) : Int := rghX n * rgS (rghY n) 6 / 1073741824
theorem rghX_in {n : Nat} (h : n ≤ 5400000) : 0 ≤ rghX n ∧ rghX n ≤ 1686629713 := by unfold rghX; omega
theorem rghY_in {n : Nat} (h : n ≤ 5400000) : 0 ≤ rghX n * rghX n ∧ rghX n * rghX n ≤ 2844719788774462369 ∧ 0 ≤ rghY n ∧ rghY n ≤ 2700000000 := by
  obtain ⟨a, b⟩ := rghX_in h
  have p0 := Int.mul_nonneg a a
  have p1 := Int.mul_le_mul b b a (show (0 : Int) ≤ 1686629713 by decide)
  unfold rghY
  generalize rghX n * rghX n = p at *
  omega
theorem rghV_in {n : Nat} (h : n ≤ 5400000) : 0 ≤ rghX n * rgS (rghY n) 6 ∧ rghX n * rgS (rghY n) 6 ≤ 1811004864449216512 ∧ 0 ≤ rghV n ∧ rghV n ≤ 1686629713 := by
  obtain ⟨a, b⟩ := rghX_in h
  obtain ⟨-, -, y0, y1⟩ := rghY_in h
  obtain ⟨s0, s1⟩ := rgS_in y0 y1 6 (by decide)
  have p0 := Int.mul_nonneg a s0
  have p1 := Int.mul_le_mul b s1 s0 (show (0 : Int) ≤ 1686629713 by decide)
  unfold rghV
  generalize rghX n * rgS (rghY n) 6 = p at *
  omega
set_option maxHeartbeats 2000000 in
set_option maxRecDepth 100000 in
theorem r7_RoughN (n : Nat) (w : World) (h : n ≤ 5400000) :
    Calls Tryz.prog 251 #[.int .i64 (n : Int)] w fun e w' => e = .returned (.int .i64 (rghV n)) ∧ ∃ d, w' = bw w d := by
  obtain ⟨x0, x1⟩ := rghX_in h
  obtain ⟨q0, q1, y0, y1⟩ := rghY_in h
  obtain ⟨v0, v1, -, -⟩ := rghV_in h
  have hS := rgS_in y0 y1
  have HS := Lib.hid hS
  have hV : rghX n * rgS (rghY n) 6 / 1073741824 = rghV n := rfl
  have hX : (n : Int) * 3373259426 / 10800000 = rghX n := rfl
  have hY : rghX n * rghX n / 1073741824 = rghY n := rfl
  have hstep : ∀ i : Nat, 1073741824 - rghY n * rgS (rghY n) i / 1073741824 / ((13 - 2 * (i : Int)) * (13 - 2 * (i : Int) - 1)) = rgS (rghY n) (i + 1) := fun i => rfl
  have HST := Lib.hid hstep
  generalize rghV n = V at *
  generalize rghX n = X at *
  generalize rghY n = Y at *
  obtain ⟨P, hP⟩ : ∃ P : Int, (n : Int) * 3373259426 = P := ⟨_, rfl⟩
  rw [hP] at hX
  have kP : IntKind.i64.wrap P = P := IntWalk.i64_in _ (by omega)
  have tP : P.tdiv 10800000 = X := by rw [Int.tdiv_eq_ediv_of_nonneg (by omega)]; exact hX
  obtain ⟨Q, hQ⟩ : ∃ Q, X * X = Q := ⟨_, rfl⟩
  rw [hQ] at hY q0 q1
  have kQ : IntKind.i64.wrap Q = Q := IntWalk.i64_in _ (by omega)
  have tQ : Q.tdiv 1073741824 = Y := by rw [Int.tdiv_eq_ediv_of_nonneg q0]; exact hY
  have kX : IntKind.i64.wrap X = X := IntWalk.i64_in _ (by omega)
  have kY : IntKind.i64.wrap Y = Y := IntWalk.i64_in _ (by omega)
  have HV := Lib.hid (And.intro hV (And.intro v0 v1))
  have HYb := Lib.hid (And.intro y0 y1)
  clear hX hY q0 q1 hV v0 v1 x0 x1 y0 y1 hS hstep h
  refine lay_start ?_
  go_enter Tryz.func251, Tryz.ntmps251
  go_wp2_with fail
  go_loop [5, 6] (fun v5 v6 => ∃ (i : Nat) (K : Int), i ≤ 6 ∧ 13 - 2 * (i : Int) = K ∧ v6 = .int .i64 K ∧ v5 = .int .i64 (rgS Y i)) (fun _ v6 => (intOf v6).toNat)
  case atStart => exact ⟨0, 13, by decide, rfl, rfl, rfl⟩
  case round =>
    obtain ⟨i, K, hi, hK, rfl, rfl⟩ := hrel
    by_cases c : i < 6
    · have hs0 := HS.out i hi
      have hs1 := HS.out (i + 1) (by omega)
      have hst := HST.out i
      have hy := HYb.out
      have HI := Lib.hid c
      obtain ⟨K1, hK1⟩ : ∃ K1 : Int, K - 1 = K1 := ⟨_, rfl⟩
      rw [hK, hK1] at hst
      obtain ⟨KK, hKK⟩ : ∃ KK : Int, K * K1 = KK := ⟨_, rfl⟩
      rw [hKK] at hst
      have b1 : 6 ≤ KK ∧ KK ≤ 156 := by
        have m1 := Int.mul_le_mul (show (3 : Int) ≤ K by omega) (show (2 : Int) ≤ K1 by omega) (by decide) (by omega)
        have m2 := Int.mul_le_mul (show K ≤ 13 by omega) (show K1 ≤ 12 by omega) (by omega) (by decide)
        omega
      generalize rgS Y i = t at *
      obtain ⟨p, hp⟩ : ∃ p : Int, Y * t = p := ⟨_, rfl⟩
      have p0 : 0 ≤ p := by rw [← hp]; exact Int.mul_nonneg hy.1 hs0.1
      have p1 : p ≤ 2899102924800000000 := by rw [← hp]; have := Int.mul_le_mul hy.2 hs0.2 hs0.1 (show (0 : Int) ≤ 2700000000 by decide); omega
      rw [hp] at hst
      obtain ⟨r, hr⟩ : ∃ r : Int, p / 1073741824 = r := ⟨_, rfl⟩
      rw [hr] at hst
      have r0 : 0 ≤ r ∧ r ≤ 2700000000 := by omega
      obtain ⟨s, hs⟩ : ∃ s : Int, r / KK = s := ⟨_, rfl⟩
      rw [hs] at hst
      have tp : p.tdiv 1073741824 = r := by rw [Int.tdiv_eq_ediv_of_nonneg p0]; exact hr
      have tr : r.tdiv KK = s := by rw [Int.tdiv_eq_ediv_of_nonneg r0.1]; exact hs
      obtain ⟨u, hu⟩ : ∃ u, rgS Y (i + 1) = u := ⟨_, rfl⟩
      rw [hu] at hst hs1
      have nK : KK ≠ 0 := by omega
      have kK1 : IntKind.i64.wrap K1 = K1 := IntWalk.i64_in _ (by omega)
      have kKK : IntKind.i64.wrap KK = KK := IntWalk.i64_in _ (by omega)
      have kp : IntKind.i64.wrap p = p := IntWalk.i64_in _ (by omega)
      have kr : IntKind.i64.wrap r = r := IntWalk.i64_in _ (by omega)
      have ks : IntKind.i64.wrap s = s := IntWalk.i64_in _ (by omega)
      have ku : IntKind.i64.wrap u = u := IntWalk.i64_in _ (by omega)
      obtain ⟨K2, hK2⟩ : ∃ K2 : Int, K - 2 = K2 := ⟨_, rfl⟩
      have kK2 : IntKind.i64.wrap K2 = K2 := IntWalk.i64_in _ (by omega)
      have c1 : (1 : Int) < K := by omega
      have HK := Lib.hid (show K2 = 13 - 2 * ((i + 1 : Nat) : Int) by omega)
      have HKK := Lib.hid (show K2 < K ∧ 0 < K by omega)
      have HU := Lib.hid hu
      clear hu hs0 hs1 hy b1 p0 p1 r0 hK hi c
      go_wp2_with fail
      go_round
      case rel => exact ⟨i + 1, K2, HI.out, HK.out.symm, rfl, by rw [HU.out]⟩
      case measure => have := HKK.out; simp [intOf]; omega
    · obtain rfl : i = 6 := by omega
      obtain rfl : K = 1 := by omega
      have v0 := HV.out.2.1
      have v1 := HV.out.2.2
      have hv := HV.out.1
      generalize rgS Y 6 = t at *
      obtain ⟨p, hp⟩ : ∃ p : Int, X * t = p := ⟨_, rfl⟩
      rw [hp] at v0 v1 hv
      have kp : IntKind.i64.wrap p = p := IntWalk.i64_in _ (by omega)
      have tp : p.tdiv 1073741824 = V := by rw [Int.tdiv_eq_ediv_of_nonneg v0]; exact hv
      have kV : IntKind.i64.wrap V = V := IntWalk.i64_in _ (by omega)
      clear v0 v1 hi c hK
      go_wp2_with fail
      go_ret
      exact ⟨rfl, lay_ex _ _⟩
end Go.Proofs.YtnnmfdeeicpdlaaGreat
/- The reference's angle of a point of the first quadrant: direction, floor. -/
namespace Go.Proofs.YtnnmfdeeicpdlaaGreat
set_option maxHeartbeats 2000000
set_option maxRecDepth 100000
open Go.RowKit

theorem r7_direction (x y : Int) (w : World) (x0 : 0 < x) (x1 : x ≤ 2147483648) (y0 : 0 ≤ y) (y1 : y ≤ 2147483648) :
    Calls Tryz.prog 249 #[(.agg #[.int .i64 (x), .int .i64 (y)])] w fun e w' => ∃ (m : Nat) (d : Ext), m ≤ 5399999 ∧ e = .returned (.int .i64 (m : Int)) ∧ w' = bw w d := by
  have HRg := Lib.hid (fun (n : Nat) W (h : n ≤ 5400000) => r7_RoughN n W h)
  have HX := Lib.hid (And.intro x0 (And.intro x1 (And.intro y0 y1)))
  clear x0 x1 y0 y1
  refine lay_start ?_
  go_enter Tryz.func249, Tryz.ntmps249
  go_wp2_with fail
  go_loopw [3, 4] (fun v3 v4 wr => ∃ (a b : Nat) (dd : Ext), a ≤ b ∧ b ≤ 5399999 ∧ v3 = .int .i64 (a : Int) ∧ v4 = .int .i64 (b : Int) ∧ wr = lay w [.inr dd, .inl (.cells #[.int .i64 x, .int .i64 y] 172 (0, 0))]) (fun v3 v4 _ => (intOf v4 - intOf v3).toNat)
  case atStart => exact ⟨0, 5399999, noExt _, by decide, by decide, rfl, rfl, (bw_noExt _).symm⟩
  case round =>
    obtain ⟨a, b, dd, hab, hb, rfl, rfl, rfl⟩ := hrel
    by_cases c : a < b
    · have c1 : (a : Int) < (b : Int) := by omega
      obtain ⟨m, hm⟩ : ∃ m : Nat, a + (b - a + 1) / 2 = m := ⟨_, rfl⟩
      have hm2 : a < m ∧ m ≤ b := by omega
      obtain ⟨D, hD⟩ : ∃ D : Int, (b : Int) - (a : Int) = D := ⟨_, rfl⟩
      obtain ⟨D1, hD1⟩ : ∃ D1 : Int, D + 1 = D1 := ⟨_, rfl⟩
      obtain ⟨H, hH⟩ : ∃ H : Int, D1 / 2 = H := ⟨_, rfl⟩
      have tH : D1.tdiv 2 = H := by rw [Int.tdiv_eq_ediv_of_nonneg (by omega)]; exact hH
      have hmI : (a : Int) + H = (m : Int) := by omega
      have kD : IntKind.i64.wrap D = D := IntWalk.i64_in _ (by omega)
      have kD1 : IntKind.i64.wrap D1 = D1 := IntWalk.i64_in _ (by omega)
      have kH : IntKind.i64.wrap H = H := IntWalk.i64_in _ (by omega)
      have km : IntKind.i64.wrap (m : Int) = (m : Int) := IntWalk.i64_in _ (by omega)
      have km1 : IntKind.i64.wrap ((m : Int) - 1) = (m : Int) - 1 := IntWalk.i64_in _ (by omega)
      obtain ⟨m2, hm3⟩ : ∃ m2 : Nat, 5400000 - m = m2 := ⟨_, rfl⟩
      have hmJ : (5400000 : Int) - (m : Int) = (m2 : Int) := by omega
      have km2 : IntKind.i64.wrap (m2 : Int) = (m2 : Int) := IntWalk.i64_in _ (by omega)
      have HR1 := Lib.hid (fun W => HRg.out m W (by omega))
      have HR2 := Lib.hid (fun W => HRg.out m2 W (by omega))
      have r1 := (rghV_in (n := m) (by omega)).2.2
      have r2 := (rghV_in (n := m2) (by omega)).2.2
      generalize rghV m = V1 at *
      generalize rghV m2 = V2 at *
      obtain ⟨P, hP⟩ : ∃ P : Int, x * V1 = P := ⟨_, rfl⟩
      obtain ⟨Q, hQ⟩ : ∃ Q : Int, y * V2 = Q := ⟨_, rfl⟩
      obtain ⟨x0, x1, y0, y1⟩ := HX.out
      have bP : 0 ≤ P ∧ P ≤ 4000000000000000000 := by
        have p0 := Int.mul_nonneg (show 0 ≤ x by omega) r1.1
        have p1 := Int.mul_le_mul x1 r1.2 r1.1 (show (0 : Int) ≤ 2147483648 by decide)
        omega
      have bQ : 0 ≤ Q ∧ Q ≤ 4000000000000000000 := by
        have p0 := Int.mul_nonneg y0 r2.1
        have p1 := Int.mul_le_mul y1 r2.2 r2.1 (show (0 : Int) ≤ 2147483648 by decide)
        omega
      have kP : IntKind.i64.wrap P = P := IntWalk.i64_in _ (by omega)
      have kQ : IntKind.i64.wrap Q = Q := IntWalk.i64_in _ (by omega)
      have HM := Lib.hid (And.intro hm2 (And.intro hab hb))
      clear hm hm2 hm3 r1 r2 x0 x1 y0 y1 bP bQ hab hb c hH
      go_wp2_with fail
      refine region_bw (by kernel_rfl) (by kernel_rfl) ?_
      repeat (go_big_quiet_step ((first | (go_at_call 251; first | (with_reducible refine bq (HR1.out _) ?_; exact (fun d => lay_join _ _ _ d)) | (with_reducible refine bq (HR2.out _) ?_; exact (fun d => lay_join _ _ _ d)) | (with_reducible refine bq (HR1.out _) ?_; exact (fun d => ⟨d, rfl⟩)) | (with_reducible refine bq (HR2.out _) ?_; exact (fun d => ⟨d, rfl⟩))))))
      refine wpQuiet_nil ?_
      rintro w' ⟨d, rfl⟩
      rw [lay_bw]
      obtain ⟨z, hz⟩ : ∃ z, lay w [.inr d, .inr dd, .inl (.cells #[.int .i64 x, .int .i64 y] 172 (0, 0))] = lay w [.inr z, .inl (.cells #[.int .i64 x, .int .i64 y] 172 (0, 0))] := ⟨_, bw_bw _ _ _⟩
      rw [hz]
      clear hz
      by_cases cp : P ≤ Q
      · go_wp2_with fail
        go_roundw
        case rel => exact ⟨m, b, z, HM.out.1.2, HM.out.2.2, rfl, rfl, rfl⟩
        case measure => have := HM.out; simp [intOf]; omega
      · go_wp2_with fail
        go_roundw
        case rel => exact ⟨a, m - 1, z, by have := HM.out; omega, by have := HM.out; omega, rfl, by congr 1; have := HM.out; omega, rfl⟩
        case measure => have := HM.out; simp [intOf]; omega
    · have c1 : ¬ (a : Int) < (b : Int) := by omega
      have HM := Lib.hid (And.intro hab hb)
      clear c hab hb
      go_wp2_with fail
      go_ret
      obtain ⟨y', hy'⟩ := lay_ex w [.inr dd, .inl (.cells #[.int .i64 x, .int .i64 y] 172 (0, 0))]
      exact ⟨a, by have := HM.out; omega, rfl, y', hy'⟩
theorem sideV_0 {x y : Int} (y0 : 0 ≤ y) : sideV 0 x y ≤ 0 := by
  unfold sideV sgI
  rw [if_pos rfl]
  split
  · decide
  · rw [if_neg (by omega)]; decide
theorem sideV_q {x y : Int} (x0 : 0 < x) : sideV 5400000 x y = 1 := by
  unfold sideV sgI
  rw [if_neg (by decide), if_neg (by decide), if_pos rfl, if_neg (by omega), if_pos x0]
theorem r6_Side (n : Nat) (x y : Int) (w : World) (hn : n ≤ 5400000) (x0 : 0 < x) (x1 : x ≤ 2147483648) (y0 : 0 ≤ y) (y1 : y ≤ 2147483648) :
    Calls Tryz.prog 250 #[.int .i64 (n : Int), .int .i64 x, .int .i64 y] w fun e w' => e = .returned (.int .i64 (sideV n x y)) ∧ ∃ d, w' = bw w d := by
  by_cases h0 : n = 0
  · subst h0
    have := r6_SideE0 x y w (by omega) x1 y0 y1
    unfold sideV
    rw [if_pos rfl]
    exact this
  · by_cases h1 : n = 2700000
    · subst h1
      have := r6_SideE1 x y w (by omega) x1 y0 y1
      unfold sideV
      rw [if_neg h0, if_pos rfl]
      exact this
    · by_cases h2 : n = 5400000
      · subst h2
        have := r6_SideE2 x y w (by omega) x1 y0 y1
        unfold sideV
        rw [if_neg h0, if_neg h1, if_pos rfl]
        exact this
      · exact r6_SideGx far_all n x y w (by omega) h1 (by omega) x0 x1 y0 y1
structure FloI (x y : Int) (k : Nat) : Prop where
  lt : k < 5400000
  lo : sideV k x y ≤ 0
  hi : 0 < sideV (k + 1) x y
theorem r7_floor (x y : Int) (w : World) (x0 : 0 < x) (x1 : x ≤ 2147483648) (y0 : 0 ≤ y) (y1 : y ≤ 2147483648) :
    Calls Tryz.prog 199 #[(.agg #[.int .i64 (x), .int .i64 (y)])] w fun e w' => ∃ (k : Nat) (d : Ext), FloI x y k ∧ e = .returned (.tuple #[.int .i64 (k : Int), .bool (sideV k x y == 0)]) ∧ w' = bw w d := by
  have HD := Lib.hid (fun W => r7_direction x y W x0 x1 y0 y1)
  have HS := Lib.hid (fun n W (h : n ≤ 5400000) => r6_Side n x y W h x0 x1 y0 y1)
  have H0 := Lib.hid (sideV_0 (x := x) y0)
  have HQ := Lib.hid (sideV_q (y := y) x0)
  clear x0 x1 y0 y1
  refine lay_start ?_
  go_enter Tryz.func199, Tryz.ntmps199
  go_wp2_with fail
  refine (HD.out _).mono ?_
  rintro e w' ⟨m, d0, hm, rfl, rfl⟩
  rw [lay_bw]
  have HM := Lib.hid hm
  clear hm HD
  go_wp2_with fail
  go_loopw [4] (fun v4 wr => ∃ (k : Nat) (dd : Ext), k ≤ 5399999 ∧ v4 = .int .i64 (k : Int) ∧ wr = lay w [.inr dd, .inl (.cells #[.int .i64 x, .int .i64 y] 172 (0, 0))]) (fun v4 _ => (intOf v4).toNat)
  case atStart => exact ⟨m, d0, HM.out, rfl, rfl⟩
  case round =>
    obtain ⟨k, dd, hk, rfl, rfl⟩ := hrel
    have HK := Lib.hid hk
    have HS1 := Lib.hid (fun W => HS.out k W (by omega))
    obtain ⟨v, hv⟩ : ∃ v, sideV k x y = v := ⟨_, rfl⟩
    rw [hv] at HS1
    by_cases c : 0 < v
    · have hk0 : k ≠ 0 := fun h => by
        have := H0.out
        rw [← h, hv] at this
        omega
      have km1 : IntKind.i64.wrap ((k : Int) - 1) = (k : Int) - 1 := IntWalk.i64_in _ (by omega)
      have HK0 := Lib.hid hk0
      clear hk hv hk0
      go_wp2_with (go_at_call 250; refine (HS1.out _).mono ?_; rintro e w' ⟨rfl, d1, rfl⟩; rw [lay_bw])
      obtain ⟨z, hz⟩ : ∃ z, lay w [.inr d1, .inr dd, .inl (.cells #[.int .i64 x, .int .i64 y] 172 (0, 0))] = lay w [.inr z, .inl (.cells #[.int .i64 x, .int .i64 y] 172 (0, 0))] := ⟨_, bw_bw _ _ _⟩
      rw [hz]
      clear hz
      go_wp2_with fail
      go_roundw
      case rel => exact ⟨k - 1, z, by have := HK.out; omega, by congr 1; have := HK0.out; omega, rfl⟩
      case measure => have := HK0.out; simp [intOf]; omega
    · have HV := Lib.hid hv
      have HC := Lib.hid c
      clear hk hv
      go_wp2_with (go_at_call 250; refine (HS1.out _).mono ?_; rintro e w' ⟨rfl, d1, rfl⟩; rw [lay_bw])
      obtain ⟨z, hz⟩ : ∃ z, lay w [.inr d1, .inr dd, .inl (.cells #[.int .i64 x, .int .i64 y] 172 (0, 0))] = lay w [.inr z, .inl (.cells #[.int .i64 x, .int .i64 y] 172 (0, 0))] := ⟨_, bw_bw _ _ _⟩
      rw [hz]
      clear hz
      go_loopw [4] (fun v4 wr => ∃ (k : Nat) (dd : Ext), k ≤ 5399999 ∧ sideV k x y ≤ 0 ∧ v4 = .int .i64 (k : Int) ∧ wr = lay w [.inr dd, .inl (.cells #[.int .i64 x, .int .i64 y] 172 (0, 0))]) (fun v4 _ => (5400000 - intOf v4).toNat)
      case atStart => exact ⟨k, z, HK.out, by have := HV.out; have := HC.out; omega, rfl, rfl⟩
      case round =>
        clear HK HS1 HV HC c
        obtain ⟨k, dd, hk, hle, rfl, rfl⟩ := hrel
        have HK := Lib.hid (And.intro hk hle)
        have HS1 := Lib.hid (fun W => HS.out (k + 1) W (by omega))
        have HS2 := Lib.hid (fun W => HS.out k W (by omega))
        obtain ⟨K1, hK1⟩ : ∃ K1 : Int, (k : Int) + 1 = K1 := ⟨_, rfl⟩
        have kK1 : IntKind.i64.wrap K1 = K1 := IntWalk.i64_in _ (by omega)
        rw [show ((k + 1 : Nat) : Int) = K1 by omega] at HS1
        obtain ⟨v, hv⟩ : ∃ v, sideV (k + 1) x y = v := ⟨_, rfl⟩
        rw [hv] at HS1
        by_cases c : v ≤ 0
        · have hk0 : k + 1 ≤ 5399999 := by
            have h1 := HQ.out
            rcases Nat.lt_or_ge (k + 1) 5400000 with h | h
            · omega
            · rw [show k + 1 = 5400000 by omega, h1] at hv
              omega
          have HV := Lib.hid (And.intro hk0 (show sideV (k + 1) x y ≤ 0 by rw [hv]; exact c))
          have HKI := Lib.hid (show K1 = ((k + 1 : Nat) : Int) by omega)
          clear hk hle hv hk0
          go_wp2_with (go_at_call 250; refine (HS1.out _).mono ?_; rintro e w' ⟨rfl, d1, rfl⟩; rw [lay_bw])
          obtain ⟨z, hz⟩ : ∃ z, lay w [.inr d1, .inr dd, .inl (.cells #[.int .i64 x, .int .i64 y] 172 (0, 0))] = lay w [.inr z, .inl (.cells #[.int .i64 x, .int .i64 y] 172 (0, 0))] := ⟨_, bw_bw _ _ _⟩
          rw [hz]
          clear hz
          go_wp2_with fail
          go_roundw
          case rel => exact ⟨k + 1, z, HV.out.1, HV.out.2, by rw [HKI.out], rfl⟩
          case measure => have := HKI.out; have := HV.out; simp [intOf]; omega
        · have HF : Hid (FloI x y k) := Lib.hid ⟨by omega, hle, by rw [hv]; omega⟩
          obtain ⟨t, ht⟩ : ∃ t, sideV k x y = t := ⟨_, rfl⟩
          have HT := Lib.hid ht
          rw [ht] at HS2
          clear hk hle hv ht
          go_wp2_with (go_at_call 250; first | ((with_reducible refine (HS1.out _).mono ?_); rintro e w' ⟨rfl, d1, rfl⟩; rw [lay_bw]) | ((with_reducible refine (HS2.out _).mono ?_); rintro e w' ⟨rfl, d2, rfl⟩; rw [lay_bw]))
          refine bodyPost_ret (v := .tuple #[.int .i64 (k : Int), .bool (t == 0)]) (by simp [results, Tryz.results199, go_sem]) rfl ?_
          obtain ⟨y', hy'⟩ := lay_ex w [.inr d2, .inr d1, .inr dd, .inl (.cells #[.int .i64 x, .int .i64 y] 172 (0, 0))]
          exact ⟨k, y', HF.out, by rw [HT.out], hy'⟩
end Go.Proofs.YtnnmfdeeicpdlaaGreat
/- The sides of a point grow with the direction: the reference's floor is the program's angle. No walk. -/
namespace Go.Proofs.YtnnmfdeeicpdlaaGreat
open Go.RowKit

theorem one_num : 29 / 100000000 + 1 / (k160 : Rat) ≤ (s1U : Rat) / (k160 : Rat) ∧ 1 - 1 / 10000000000000 + 1 / (k160 : Rat) ≤ (c1U : Rat) / (k160 : Rat) ∧ (c1U : Rat) / (k160 : Rat) + 1 / (k160 : Rat) ≤ 1 - 1 / 100000000000000 ∧ 1 / (k160 : Rat) ≤ 1 / 10000000000000000000000000000000000000000 := by decide +kernel
theorem one_in : 29 / 100000000 ≤ sinU 1 ∧ 1 - 1 / 10000000000000 ≤ cosU 1 ∧ cosU 1 ≤ 1 - 1 / 100000000000000 := by
  obtain ⟨⟨a1, a2⟩, b1, b2⟩ := oneU_near
  obtain ⟨n1, n2, n3, n4⟩ := one_num
  generalize sinU 1 = s at *
  generalize cosU 1 = c at *
  generalize (s1U : Rat) / (k160 : Rat) = p at *
  generalize (c1U : Rat) / (k160 : Rat) = q at *
  generalize 1 / (k160 : Rat) = e at *
  refine ⟨?_, ?_, ?_⟩ <;> grind
theorem sinU_up {n : Nat} (h : n < 2700000) : sinU n + 1 / 10000000 ≤ sinU (n + 1) := by
  obtain ⟨h1, h2⟩ := sinU_step (n := n) (by omega)
  obtain ⟨i1, i2, i3⟩ := one_in
  have n4 := one_num.2.2.2
  obtain ⟨s0, s1⟩ := sinU_in (n := n) (by omega)
  obtain ⟨c0, c1⟩ := cosU_in (n := n) (by omega)
  have hx := (xi_in (n := n) (by omega)).2
  have m1 := rmul (show (0 : Rat) ≤ 17 / 25 by grind) c0 (show (0 : Rat) ≤ 29 / 100000000 by grind) i1
  have m2 := rmul s0 (show sinU n ≤ 4 / 5 by exact Rat.le_trans s1 hx) (show (0 : Rat) ≤ 1 - cosU 1 by generalize cosU 1 = c at *; grind) (show 1 - cosU 1 ≤ 1 / 10000000000000 by generalize cosU 1 = c at *; grind)
  generalize sinU (n + 1) = z at *
  generalize sinU n = s at *
  generalize cosU n = c at *
  generalize sinU 1 = p at *
  generalize cosU 1 = q at *
  generalize 1 / (k160 : Rat) = e at *
  clear i1 i2 i3 s1 hx
  grind
theorem cosU_dn {n : Nat} (h : n < 2700000) : cosU (n + 1) ≤ cosU n := by
  obtain ⟨h1, h2⟩ := cosU_step (n := n) (by omega)
  obtain ⟨i1, i2, i3⟩ := one_in
  have n4 := one_num.2.2.2
  obtain ⟨s0, s1⟩ := sinU_in (n := n) (by omega)
  obtain ⟨c0, c1⟩ := cosU_in (n := n) (by omega)
  have m1 := rmul (show (0 : Rat) ≤ 17 / 25 by grind) c0 (show (0 : Rat) ≤ 1 / 100000000000000 by grind) (show 1 / 100000000000000 ≤ 1 - cosU 1 by generalize cosU 1 = c at *; grind)
  have m2 := rmul0 s0 (show 0 ≤ sinU 1 by generalize sinU 1 = c at *; grind)
  generalize cosU (n + 1) = z at *
  generalize sinU n = s at *
  generalize cosU n = c at *
  generalize sinU 1 = p at *
  generalize cosU 1 = q at *
  generalize 1 / (k160 : Rat) = e at *
  clear i1 i2 i3 s1
  grind
theorem sinU_mono {a : Nat} : ∀ d : Nat, a + d ≤ 2700000 → sinU a ≤ sinU (a + d)
  | 0, _ => Rat.le_refl
  | d + 1, h => by
    have h1 := sinU_mono (a := a) d (by omega)
    have h2 := sinU_up (n := a + d) (by omega)
    rw [show a + (d + 1) = a + d + 1 by omega]
    generalize sinU (a + d + 1) = z at *
    generalize sinU (a + d) = y at *
    grind
theorem cosU_mono {a : Nat} : ∀ d : Nat, a + d ≤ 2700000 → cosU (a + d) ≤ cosU a
  | 0, _ => Rat.le_refl
  | d + 1, h => Rat.le_trans (by rw [show a + (d + 1) = a + d + 1 by omega]; exact cosU_dn (by omega)) (cosU_mono (a := a) d (by omega))
theorem sinU_le {a b : Nat} (h : a ≤ b) (hb : b ≤ 2700000) : sinU a ≤ sinU b := by
  have := sinU_mono (a := a) (b - a) (by omega)
  rwa [show a + (b - a) = b by omega] at this
theorem cosU_le {a b : Nat} (h : a ≤ b) (hb : b ≤ 2700000) : cosU b ≤ cosU a := by
  have := cosU_mono (a := a) (b - a) (by omega)
  rwa [show a + (b - a) = b by omega] at this
theorem mid_U : sinU 2700000 ≤ cosU 2700000 + 1 / 1000000000 := by
  obtain ⟨h1, h2⟩ := rotU_near (r := 2700000) (by decide)
  rw [show rotU 2700000 = _ from far_2700000.1] at h1 h2
  obtain ⟨a, b⟩ := h1
  obtain ⟨c, d⟩ := h2
  have hk : 64 * ((2700000 : Nat) : Rat) / (k160 : Rat) ≤ 1 / 10000000000 := by decide +kernel
  dsimp only at a b c d
  generalize sinU 2700000 = s at *
  generalize cosU 2700000 = t at *
  generalize 64 * ((2700000 : Nat) : Rat) / (k160 : Rat) = e at *
  generalize hp : ((_ : Nat) : Rat) / (k160 : Rat) = p at b
  generalize hq : ((_ : Nat) : Rat) / (k160 : Rat) = q at c
  have hpq : p ≤ q + 1 / 10000000000 := by rw [← hp, ← hq]; decide +kernel
  clear hp hq a d
  grind
theorem sin_cos_U {a b : Nat} (ha : a < 2700000) (hb : b ≤ 2700000) : sinU a + 9 / 100000000 ≤ cosU b := by
  have h1 := sinU_up ha
  have h2 := sinU_le (a := a + 1) (b := 2700000) (by omega) (Nat.le_refl _)
  have h3 := mid_U
  have h4 := cosU_le (a := b) (b := 2700000) hb (Nat.le_refl _)
  generalize sinU (a + 1) = z at *
  generalize sinU a = s at *
  generalize sinU 2700000 = m at *
  generalize cosU 2700000 = n at *
  generalize cosU b = t at *
  grind
theorem sU_mono {k1 k2 : Nat} (h : k1 < k2) (h2 : k2 < 5400000) (h3 : k1 ≠ 2700000) : sU k1 ≤ sU k2 ∧ cU k2 ≤ cU k1 := by
  unfold sU cU
  by_cases c2 : 2700000 < k2
  · rw [if_pos c2, if_pos c2]
    by_cases c1 : 2700000 < k1
    · rw [if_pos c1, if_pos c1]
      exact ⟨cosU_le (by omega) (by omega), sinU_le (by omega) (by omega)⟩
    · rw [if_neg c1, if_neg c1]
      constructor
      · have := sin_cos_U (a := k1) (b := 5400000 - k2) (by omega) (by omega)
        generalize sinU k1 = s at *
        generalize cosU (5400000 - k2) = t at *
        grind
      · have := sin_cos_U (a := 5400000 - k2) (b := k1) (by omega) (by omega)
        generalize sinU (5400000 - k2) = s at *
        generalize cosU k1 = t at *
        grind
  · rw [if_neg c2, if_neg c2, if_neg (by omega), if_neg (by omega)]
    exact ⟨sinU_le (by omega) (by omega), cosU_le (by omega) (by omega)⟩
theorem rpos {z : Int} (h : 0 ≤ z) : (0 : Rat) ≤ (z : Rat) := by exact_mod_cast h
theorem crU_mono {k1 k2 : Nat} (h : k1 < k2) (h2 : k2 < 5400000) (h3 : k1 ≠ 2700000) {u v : Int} (u0 : 0 ≤ u) (v0 : 0 ≤ v) : crU k1 u v ≤ crU k2 u v := by
  obtain ⟨a, b⟩ := sU_mono h h2 h3
  have m1 := Rat.mul_le_mul_of_nonneg_left a (rpos u0)
  have m2 := Rat.mul_le_mul_of_nonneg_left b (rpos v0)
  unfold crU
  generalize (u : Rat) = x at *
  generalize (v : Rat) = y at *
  grind
theorem side_gen {n : Nat} (h0 : n ≠ 0) (h1 : n ≠ 2700000) (h2 : n ≠ 5400000) (x y : Int) : sideV n x y = if 0 < crU n x y then 1 else -1 := by
  unfold sideV
  rw [if_neg h0, if_neg h1, if_neg h2]
theorem side_gen_le {n : Nat} (h0 : n ≠ 0) (h1 : n ≠ 2700000) (h2 : n ≠ 5400000) (x y : Int) : sideV n x y ≤ 0 ↔ ¬ 0 < crU n x y := by
  rw [side_gen h0 h1 h2]
  split
  · rename_i c
    exact ⟨fun h => by omega, fun h => absurd c h⟩
  · rename_i c
    exact ⟨fun _ => c, fun _ => by decide⟩
theorem side_half (x y : Int) : sideV 2700000 x y ≤ 0 ↔ x ≤ y := by
  unfold sideV sgI
  rw [if_neg (by decide), if_pos rfl]
  constructor
  · intro h
    rcases Int.lt_or_le y x with c | c
    · rw [if_neg (by omega), if_pos (by omega)] at h
      omega
    · exact c
  · intro h
    split
    · decide
    · rw [if_neg (by omega)]; decide
theorem sideV_mono {k1 k2 : Nat} (h : k1 < k2) (h2 : k2 ≤ 5400000) {u v : Int} (u0 : 0 < u) (v0 : 0 ≤ v) (hs : sideV k2 u v ≤ 0) : sideV k1 u v ≤ 0 := by
  by_cases z1 : k1 = 0
  · subst z1; exact sideV_0 v0
  · by_cases z2 : k2 = 5400000
    · subst z2
      rw [sideV_q u0] at hs
      omega
    · by_cases y2 : k2 = 2700000
      · subst y2
        have hu := (side_half u v).1 hs
        rw [side_gen_le z1 (by omega) (by omega)]
        have hc := sin_cos_U (a := k1) (b := k1) h (by omega)
        have s0 := (sinU_in (n := k1) (by omega)).1
        have hur := icast hu
        have m1 := Rat.mul_le_mul_of_nonneg_right hur s0
        have m2 := Rat.mul_le_mul_of_nonneg_left (show sinU k1 ≤ cosU k1 by generalize sinU k1 = s at *; generalize cosU k1 = c at *; grind) (rpos v0)
        unfold crU sU cU
        rw [if_neg (by omega), if_neg (by omega)]
        generalize sinU k1 = s at *
        generalize cosU k1 = c at *
        generalize (u : Rat) = x at *
        generalize (v : Rat) = y at *
        intro h
        clear hc hur
        grind
      · have g2 := (side_gen_le (by omega) y2 z2 u v).1 hs
        by_cases y1 : k1 = 2700000
        · subst y1
          rw [side_half]
          rcases Int.lt_or_le v u with c | c
          · exfalso
            apply g2
            have hc := sin_cos_U (a := 5400000 - k2) (b := 5400000 - k2) (by omega) (by omega)
            have s0 := (sinU_in (n := 5400000 - k2) (by omega)).1
            have hur := icast (Int.le_of_lt c)
            have u1 := icast (show (1 : Int) ≤ u by omega)
            have m1 := Rat.mul_le_mul_of_nonneg_right hur s0
            have m2 := Rat.mul_le_mul_of_nonneg_left hc (rpos (Int.le_of_lt u0))
            unfold crU sU cU
            rw [if_pos (by omega), if_pos (by omega)]
            generalize sinU (5400000 - k2) = s at *
            generalize cosU (5400000 - k2) = d at *
            rw [show ((1 : Int) : Rat) = 1 from rfl] at u1
            generalize (u : Rat) = x at *
            generalize (v : Rat) = y at *
            clear hc hur
            grind
          · exact c
        · rw [side_gen_le z1 y1 (by omega)]
          have := crU_mono h (by omega) y1 (Int.le_of_lt u0) v0
          generalize crU k1 u v = a at *
          generalize crU k2 u v = b at *
          grind
theorem rch_side {k : Nat} (hk : k < 5400000) {u v : Int} (u0 : 0 < u) (u1 : u ≤ 2147483648) (v0 : 0 ≤ v) (v1 : v ≤ 2147483648) : rchB u v k = decide (sideV k u v ≤ 0) := by
  unfold rchB
  by_cases z : k = 0
  · subst z
    rw [if_pos rfl, decide_eq_true (sideV_0 v0)]
  · rw [if_neg z]
    by_cases y : k = 2700000
    · subst y
      rw [if_pos rfl]
      exact decide_eq_decide.2 (side_half u v).symm
    · rw [if_neg y]
      refine decide_eq_decide.2 ?_
      have hf := far_cr far_all (k := k) (by omega) (Int.le_of_lt u0) u1 v0 v1 (.inl (by omega))
      rw [cr_prog (by omega) (Int.le_of_lt u0) u1 v0 v1 hf, side_gen_le z y (by omega)]
      unfold gU at hf
      generalize crU k u v = c at *
      constructor
      · intro h; grind
      · intro h; grind
theorem bisF_eq {u v : Int} {k : Nat} (hy : ∀ m, m ≤ k → rchB u v m = true) (hn : ∀ m, k < m → m < 5400000 → rchB u v m = false) : ∀ f l h : Nat, l ≤ k → k < h → h ≤ 5400000 → h - l ≤ 2 ^ f → bisF u v f l h = k
  | 0, l, h, h1, h2, h3, h4 => by
    simp at h4
    show l = k
    omega
  | f + 1, l, h, h1, h2, h3, h4 => by
    unfold bisF
    by_cases c : l + 1 < h
    · rw [if_pos c]
      rw [Nat.pow_succ] at h4
      by_cases d : (l + h) / 2 ≤ k
      · rw [if_pos (hy _ d)]
        exact bisF_eq hy hn f _ h d h2 h3 (by omega)
      · rw [hn _ (by omega) (by omega), if_neg (by decide)]
        exact bisF_eq hy hn f l _ h1 (by omega) (by omega) (by omega)
    · rw [if_neg c]
      omega
theorem exF_side {k : Nat} (hk : k < 5400000) (u v : Int) : (sideV k u v == 0) = exF u v k := by
  unfold exF
  by_cases z : k = 0
  · subst z
    unfold sideV sgI
    rw [if_pos rfl]
    by_cases c1 : v = 0
    · subst c1; simp
    · have : (if -v < 0 then (-1 : Int) else if 0 < -v then 1 else 0) ≠ 0 := by split <;> (try split) <;> omega
      rw [beq_eq_false_iff_ne.2 this]
      simp [c1]
  · by_cases y : k = 2700000
    · subst y
      unfold sideV sgI
      rw [if_neg z, if_pos rfl]
      by_cases c1 : u = v
      · subst c1; simp
      · have : (if u - v < 0 then (-1 : Int) else if 0 < u - v then 1 else 0) ≠ 0 := by split <;> (try split) <;> omega
        rw [beq_eq_false_iff_ne.2 this]
        simp [c1]
    · rw [side_gen z y (by omega)]
      simp only [z, y, false_and, decide_false, Bool.or_false]
      split <;> rfl
theorem flo_ang {u v : Int} {k : Nat} (u0 : 0 < u) (u1 : u ≤ 2147483648) (v0 : 0 ≤ v) (v1 : v ≤ 2147483648) (h : FloI u v k) : k = bisF u v 23 0 5400000 ∧ (sideV k u v == 0) = exF u v k := by
  refine ⟨(bisF_eq ?_ ?_ 23 0 5400000 (by omega) h.lt (Nat.le_refl _) (by decide)).symm, exF_side h.lt u v⟩
  · intro m hm
    rw [rch_side (by have := h.lt; omega) u0 u1 v0 v1]
    refine decide_eq_true ?_
    rcases Nat.lt_or_ge m k with c | c
    · exact sideV_mono c (by have := h.lt; omega) u0 v0 h.lo
    · rw [show m = k by omega]; exact h.lo
  · intro m hm hm2
    rw [rch_side hm2 u0 u1 v0 v1]
    refine decide_eq_false ?_
    intro hs
    have hh := h.hi
    rcases Nat.lt_or_ge (k + 1) m with c | c
    · have := sideV_mono c (by omega) u0 v0 hs
      omega
    · rw [show m = k + 1 by omega] at hs
      omega
end Go.Proofs.YtnnmfdeeicpdlaaGreat
/- The reference's Angle, before, Origin. -/
namespace Go.Proofs.YtnnmfdeeicpdlaaGreat
set_option maxHeartbeats 2000000
open Go.RowKit

def pXt (X Y : Int) : Nat → Int
  | 0 => X
  | 1 => Y
  | 2 => -X
  | _ => -Y
def pYt (X Y : Int) : Nat → Int
  | 0 => Y
  | 1 => -X
  | 2 => -Y
  | _ => X
theorem pt_step (X Y : Int) {t : Nat} (h : t < 3) : pXt X Y (t + 1) = pYt X Y t ∧ pYt X Y (t + 1) = -(pXt X Y t) := by
  rcases (show t = 0 ∨ t = 1 ∨ t = 2 by omega) with rfl | rfl | rfl
  · exact ⟨rfl, rfl⟩
  · exact ⟨rfl, rfl⟩
  · exact ⟨rfl, by show X = -(-X); omega⟩
theorem pt_bd {X Y : Int} (hx : Bd31 X) (hy : Bd31 Y) (t : Nat) : (-2147483648 ≤ pXt X Y t ∧ pXt X Y t ≤ 2147483648) ∧ (-2147483648 ≤ pYt X Y t ∧ pYt X Y t ≤ 2147483648) := by
  obtain ⟨a, b⟩ := hx
  obtain ⟨c, d⟩ := hy
  rcases t with _ | _ | _ | t
  · exact ⟨⟨a, b⟩, c, d⟩
  · exact ⟨⟨c, d⟩, by show -2147483648 ≤ -X; omega, by show -X ≤ 2147483648; omega⟩
  · exact ⟨⟨by show -2147483648 ≤ -X; omega, by show -X ≤ 2147483648; omega⟩, by show -2147483648 ≤ -Y; omega, by show -Y ≤ 2147483648; omega⟩
  · exact ⟨⟨by show -2147483648 ≤ -Y; omega, by show -Y ≤ 2147483648; omega⟩, a, b⟩
set_option maxRecDepth 100000 in
theorem r7_AngleT (X Y : Int) (T : Nat) (w : World) (hx : Bd31 X) (hy : Bd31 Y) (hT : T ≤ 3) (hgo : ∀ t, t < T → pXt X Y t ≤ 0 ∨ pYt X Y t < 0) (hp : 0 < pXt X Y T) (hq : 0 ≤ pYt X Y T) :
    Calls Tryz.prog 126 #[(.agg #[.int .i64 (X), .int .i64 (Y)])] w fun e w' => e = .returned (.tuple #[.int .i64 (5400000 * (T : Int) + (bisF (pXt X Y T) (pYt X Y T) 23 0 5400000 : Nat)), .bool (exF (pXt X Y T) (pYt X Y T) (bisF (pXt X Y T) (pYt X Y T) 23 0 5400000))]) ∧ ∃ d, w' = bw w d := by
  have hb := pt_bd hx hy T
  have HF := Lib.hid (fun W => r7_floor (pXt X Y T) (pYt X Y T) W hp hb.1.2 hq hb.2.2)
  have hA := fun k (h : FloI (pXt X Y T) (pYt X Y T) k) => flo_ang hp hb.1.2 hq hb.2.2 h
  obtain ⟨B, hB⟩ : ∃ B, bisF (pXt X Y T) (pYt X Y T) 23 0 5400000 = B := ⟨_, rfl⟩
  rw [hB] at hA ⊢
  obtain ⟨EX, hEX⟩ : ∃ EX, exF (pXt X Y T) (pYt X Y T) B = EX := ⟨_, rfl⟩
  rw [hEX]
  have HA := Lib.hid (fun k (h : FloI (pXt X Y T) (pYt X Y T) k) => show k = B ∧ (sideV k (pXt X Y T) (pYt X Y T) == 0) = EX by
    obtain ⟨a, b⟩ := hA k h
    refine ⟨a, ?_⟩
    rw [b, a, hEX])
  clear hA hB hEX
  have HG := Lib.hid (And.intro hT hgo)
  have HB := Lib.hid (pt_bd hx hy)
  have HP := Lib.hid (And.intro hp hq)
  clear hx hy hT hgo hp hq hb
  refine lay_start ?_
  go_enter Tryz.func126, Tryz.ntmps126
  go_wp2_with fail
  go_loopw [4] (fun v4 wr => ∃ t : Nat, t ≤ T ∧ v4 = .int .i64 (t : Int) ∧ wr = lay w [.inl (.cells #[.int .i64 (pXt X Y t), .int .i64 (pYt X Y t)] 172 (0, 0))]) (fun v4 _ => (4 - intOf v4).toNat)
  case atStart => exact ⟨0, Nat.zero_le _, rfl, rfl⟩
  case round =>
    obtain ⟨t, ht, rfl, rfl⟩ := hrel
    by_cases c : t < T
    · have h3 := HG.out.1
      have hc := HG.out.2 t c
      have hb := HB.out t
      have hst := pt_step X Y (t := t) (by omega)
      have HST := Lib.hid hst
      have t4 : decide ((t : Int) < 4) = true := decide_eq_true (by omega)
      have kt : IntKind.i64.wrap ((t : Int) + 1) = (t : Int) + 1 := IntWalk.i64_in _ (by omega)
      have HC := Lib.hid c
      have HT := Lib.hid (show t < 4 by omega)
      generalize pXt X Y t = P at *
      generalize pYt X Y t = Q at *
      have kP : IntKind.i64.wrap (-P) = -P := IntWalk.i64_in _ (by omega)
      by_cases cP : P ≤ 0
      · have u1 : decide (P ≤ 0) = true := decide_eq_true cP
        clear hc hb hst h3 cP c ht
        go_wp2_with fail
        go_roundw
        case rel => exact ⟨t + 1, HC.out, by go_num, by rw [HST.out.1, HST.out.2]⟩
        case measure => have := HT.out; simp [intOf]; omega
      · have u1 : decide (P ≤ 0) = false := decide_eq_false cP
        have u2 : decide (Q < 0) = true := decide_eq_true (by omega)
        clear hc hb hst h3 cP c ht
        go_wp2_with fail
        go_roundw
        case rel => exact ⟨t + 1, HC.out, by go_num, by rw [HST.out.1, HST.out.2]⟩
        case measure => have := HT.out; simp [intOf]; omega
    · obtain rfl : t = T := by omega
      have hpq := HP.out
      have u1 : decide (pXt X Y t ≤ 0) = false := decide_eq_false (by omega)
      have u2 : decide (pYt X Y t < 0) = false := decide_eq_false (by omega)
      have t4 : decide ((t : Int) < 4) = true := decide_eq_true (by have := HG.out.1; omega)
      have h3 := HG.out.1
      have HA2 := HA
      generalize pXt X Y t = P at *
      generalize pYt X Y t = Q at *
      clear hpq c ht HB HG
      go_wp2_with fail
      refine (HF.out _).mono ?_
      rintro e w' ⟨k, d1, hk, rfl, rfl⟩
      obtain ⟨hk1, hk2⟩ := HA.out k hk
      have hlt := hk.lt
      subst hk1
      rw [hk2, lay_bw]
      clear hk2 hk HA2
      clear HA HF HP
      obtain ⟨S, hS⟩ : ∃ S : Int, 5400000 * (t : Int) = S := ⟨_, rfl⟩
      have hS2 : (t : Int) * 5400000 = S := by omega
      obtain ⟨R, hR⟩ : ∃ R : Int, S + (k : Int) = R := ⟨_, rfl⟩
      have kS : IntKind.i64.wrap S = S := IntWalk.i64_in _ (by omega)
      have kR : IntKind.i64.wrap R = R := IntWalk.i64_in _ (by omega)
      have HSR := Lib.hid (show 5400000 * (t : Int) + (k : Int) = R by omega)
      clear hS hlt h3
      go_wp2_with fail
      refine bodyPost_ret (v := .tuple #[.int .i64 R, .bool EX]) (by simp [results, Tryz.results126, go_sem]) rfl ⟨by rw [HSR.out], lay_ex _ _⟩
theorem r7_Angle (X Y : Int) (w : World) (hx : Bd31 X) (hy : Bd31 Y) (hn : ¬ (X = 0 ∧ Y = 0)) :
    Calls Tryz.prog 126 #[(.agg #[.int .i64 (X), .int .i64 (Y)])] w fun e w' => e = .returned (.tuple #[.int .i64 (angF X Y).1, .bool (angF X Y).2]) ∧ ∃ d, w' = bw w d := by
  unfold angF ang1
  by_cases c0 : 0 < X ∧ 0 ≤ Y
  · rw [if_pos c0]
    exact r7_AngleT X Y 0 w hx hy (by decide) (fun t h => absurd h (Nat.not_lt_zero t)) c0.1 c0.2
  · rw [if_neg c0]
    by_cases c1 : 0 < Y ∧ X ≤ 0
    · rw [if_pos c1]
      exact r7_AngleT X Y 1 w hx hy (by decide) (fun t h => by
      obtain rfl : t = 0 := by omega
      exact .inl c1.2) c1.1 (by show 0 ≤ -X; omega)
    · rw [if_neg c1]
      by_cases c2 : X < 0 ∧ Y ≤ 0
      · rw [if_pos c2]
        refine r7_AngleT X Y 2 w hx hy (by decide) (fun t h => ?_) (by show 0 < -X; omega) (by show 0 ≤ -Y; omega)
        rcases (show t = 0 ∨ t = 1 by omega) with rfl | rfl
        · exact .inl (by show X ≤ 0; omega)
        · exact .inl c2.2
      · rw [if_neg c2]
        refine r7_AngleT X Y 3 w hx hy (by decide) (fun t h => ?_) (by show 0 < -Y; omega) (by show 0 ≤ X; omega)
        rcases (show t = 0 ∨ t = 1 ∨ t = 2 by omega) with rfl | rfl | rfl
        · exact .inr (by show Y < 0; omega)
        · exact .inl (by show Y ≤ 0; omega)
        · exact .inl (by show -X ≤ 0; omega)
theorem prodR_bd {a b : Int} (ha : Bd31 a) (hb : Bd31 b) : -4611686018427387904 ≤ a * b ∧ a * b ≤ 4611686018427387904 := by
  obtain ⟨a0, a1⟩ := ha
  obtain ⟨b0, b1⟩ := hb
  have h := Int.mul_le_mul (show (a.natAbs : Int) ≤ 2147483648 by omega) (show (b.natAbs : Int) ≤ 2147483648 by omega) (Int.natCast_nonneg _) (by decide)
  rw [← Int.natCast_mul, ← Int.natAbs_mul] at h
  omega
def befR (a b c d : Int) : Bool := decide (b * c < a * d)
theorem r7_before (a b c d : Int) (w : World) (ha : Bd31 a) (hb : Bd31 b) (hc : Bd31 c) (hd : Bd31 d) :
    Calls Tryz.prog 125 #[(.agg #[.int .i64 (a), .int .i64 (b)]), (.agg #[.int .i64 (c), .int .i64 (d)])] w fun e w' => e = .returned (.bool (befR a b c d)) ∧ ∃ d, w' = bw w d := by
  obtain ⟨P, hP⟩ : ∃ P, a * d = P := ⟨_, rfl⟩
  obtain ⟨Q, hQ⟩ : ∃ Q, b * c = Q := ⟨_, rfl⟩
  have bP := prodR_bd ha hd
  have bQ := prodR_bd hb hc
  unfold befR
  rw [hP] at bP ⊢
  rw [hQ] at bQ ⊢
  have kP : IntKind.i64.wrap P = P := IntWalk.i64_in _ (by omega)
  have kQ : IntKind.i64.wrap Q = Q := IntWalk.i64_in _ (by omega)
  clear ha hb hc hd bP bQ
  refine lay_start ?_
  go_enter Tryz.func125, Tryz.ntmps125
  go_wp2_with fail
  go_ret
  exact ⟨rfl, lay_ex _ _⟩
end Go.Proofs.YtnnmfdeeicpdlaaGreat
