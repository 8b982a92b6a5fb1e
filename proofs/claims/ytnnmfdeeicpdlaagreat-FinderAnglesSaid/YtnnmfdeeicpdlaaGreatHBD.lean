/- Contracts and plain laws, several texts in one: Rq; Rs; Nq1; Ru; Rv; Rw; R6H -/
import Derived.Test.YtnnmfdeeicpdlaaGreatProg
import Derived.WalkKit
import Derived.WalkSpells
import Derived.WalkLawsBesides
import Derived.Lib.Hide
import Derived.BigQuiet
import Derived.Test.YtnnmfdeeicpdlaaGreatHAC
import Derived.Test.YtnnmfdeeicpdlaaGreatHAD
import Derived.Test.YtnnmfdeeicpdlaaGreatHAE
import Derived.Test.YtnnmfdeeicpdlaaGreatHAU
import Derived.Test.YtnnmfdeeicpdlaaGreatHAY
import Derived.Test.YtnnmfdeeicpdlaaGreatHBB
/- The reference's quick sine of the first eighth of a turn. -/
namespace Go.Proofs.YtnnmfdeeicpdlaaGreat
set_option maxHeartbeats 4000000
set_option maxRecDepth 100000
open Go.RowKit

theorem shr31 (a : Nat) : (a : Int) / 2147483648 = ((a / 2147483648 : Nat) : Int) := (Int.natCast_ediv a 2147483648).symm
theorem i64_and31 (n : Int) : bits .and .i64 n 2147483647 = n % 2147483648 := by
  have h127 : (BitVec.ofInt 64 2147483647).toNat = 2 ^ 31 - 1 := by decide
  have key : (BitVec.ofInt 64 n &&& BitVec.ofInt 64 2147483647).toNat = (n % ((2 ^ 64 : Nat) : Int)).toNat % 2 ^ 31 := by
    rw [BitVec.toNat_and, BitVec.toNat_ofInt, h127, Nat.and_two_pow_sub_one_eq_mod]
  show IntKind.i64.wrap ((BitVec.ofInt 64 n &&& BitVec.ofInt 64 2147483647).toNat : Nat) = n % 2147483648
  rw [key, IntKind.wrap_i64]
  omega
theorem high_bd {h a b : Nat} (hh : 0 < h) (ha : a ≤ h * h) (hb : b ≤ h * h) : a / h ≤ h ∧ b / h ≤ h ∧ a % h < h ∧ b % h < h :=
  ⟨Nat.div_le_of_le_mul ha, Nat.div_le_of_le_mul hb, Nat.mod_lt _ hh, Nat.mod_lt _ hh⟩
theorem r6_high (a b : Nat) (w : World) (ha : a ≤ 4611686018427387904) (hb : b ≤ 4611686018427387904) :
    Calls Tryz.prog 347 #[.int .i64 (a : Int), .int .i64 (b : Int)] w fun e w' => e = .returned (.int .i64 (higN h31 a b : Int)) ∧ w' = w := by
  obtain ⟨h1, h2, h3, h4⟩ := high_bd (h := 2147483648) (a := a) (b := b) (by decide) ha hb
  rw [show higN h31 a b = a / 2147483648 * (b / 2147483648) + a / 2147483648 * (b % 2147483648) / 2147483648 + a % 2147483648 * (b / 2147483648) / 2147483648 from rfl]
  have ea := shr31 a
  have eb := shr31 b
  have ma := i64_and31 (a : Int)
  have mb := i64_and31 (b : Int)
  rw [show (a : Int) % 2147483648 = ((a % 2147483648 : Nat) : Int) from (Int.natCast_emod a 2147483648).symm] at ma
  rw [show (b : Int) % 2147483648 = ((b % 2147483648 : Nat) : Int) from (Int.natCast_emod b 2147483648).symm] at mb
  obtain ⟨a1, ha1⟩ : ∃ a1, a / 2147483648 = a1 := ⟨_, rfl⟩
  obtain ⟨b1, hb1⟩ : ∃ b1, b / 2147483648 = b1 := ⟨_, rfl⟩
  obtain ⟨a0, ha0⟩ : ∃ a0, a % 2147483648 = a0 := ⟨_, rfl⟩
  obtain ⟨b0, hb0⟩ : ∃ b0, b % 2147483648 = b0 := ⟨_, rfl⟩
  rw [ha1] at ea h1 ⊢
  rw [hb1] at eb h2 ⊢
  rw [ha0] at ma h3 ⊢
  rw [hb0] at mb h4 ⊢
  have p1 : a1 * b1 ≤ 2147483648 * 2147483648 := Nat.mul_le_mul h1 h2
  have p2 : a1 * b0 ≤ 2147483648 * 2147483648 := Nat.mul_le_mul h1 (by omega)
  have p3 : a0 * b1 ≤ 2147483648 * 2147483648 := Nat.mul_le_mul (by omega) h2
  obtain ⟨x, hx⟩ : ∃ x, a1 * b1 = x := ⟨_, rfl⟩
  obtain ⟨y, hy⟩ : ∃ y, a1 * b0 = y := ⟨_, rfl⟩
  obtain ⟨z, hz⟩ : ∃ z, a0 * b1 = z := ⟨_, rfl⟩
  have ex : (a1 : Int) * (b1 : Int) = (x : Int) := by rw [← hx]; exact (Int.natCast_mul _ _).symm
  have ey : (a1 : Int) * (b0 : Int) = (y : Int) := by rw [← hy]; exact (Int.natCast_mul _ _).symm
  have ez : (a0 : Int) * (b1 : Int) = (z : Int) := by rw [← hz]; exact (Int.natCast_mul _ _).symm
  rw [hx] at p1 ⊢
  rw [hy] at p2 ⊢
  rw [hz] at p3 ⊢
  have ky := shr31 y
  have kz := shr31 z
  obtain ⟨y1, hy1⟩ : ∃ y1, y / 2147483648 = y1 := ⟨_, rfl⟩
  obtain ⟨z1, hz1⟩ : ∃ z1, z / 2147483648 = z1 := ⟨_, rfl⟩
  have by1 : y1 ≤ 2147483648 := by omega
  have bz1 : z1 ≤ 2147483648 := by omega
  rw [hy1] at ky ⊢
  rw [hz1] at kz ⊢
  have kx : IntKind.i64.wrap (x : Int) = x := IntWalk.i64_in _ (by omega)
  have kyw : IntKind.i64.wrap (y : Int) = y := IntWalk.i64_in _ (by omega)
  have kzw : IntKind.i64.wrap (z : Int) = z := IntWalk.i64_in _ (by omega)
  obtain ⟨s1, hs1⟩ : ∃ s1 : Int, (x : Int) + (y1 : Int) = s1 := ⟨_, rfl⟩
  obtain ⟨s2, hs2⟩ : ∃ s2 : Int, s1 + (z1 : Int) = s2 := ⟨_, rfl⟩
  have ks1 : IntKind.i64.wrap s1 = s1 := IntWalk.i64_in _ (by omega)
  have ks2 : IntKind.i64.wrap s2 = s2 := IntWalk.i64_in _ (by omega)
  rw [show ((x + y1 + z1 : Nat) : Int) = s2 by omega]
  clear hx hy hz hy1 hz1 ha1 hb1 ha0 hb0 p1 p2 p3 h1 h2 h3 h4 by1 bz1 ha hb
  go_enter Tryz.func347, Tryz.ntmps347
  go_wp2_with fail
  go_ret
  exact ⟨rfl, rfl⟩
def qkV (r : Nat) (c : Bool) : Int := altS h31 (higN h31 (quiX r) (quiX r)) 64 (if c then h31 * h31 else quiX r) (if c then 1 else 2)
structure QkI (sq t0 : Nat) (V : Int) (t d : Nat) (sm : Int) : Prop where
  ex : ∃ f, f ≤ 32 ∧ d + 4 * f ≤ 130 ∧ t < 2 ^ (2 * f) ∧ sm + altS h31 sq (2 * f) t d = V
  d1 : 1 ≤ d
  s0 : 0 ≤ sm
  st : sm + t ≤ t0
theorem QkI.done {sq t0 d : Nat} {V sm : Int} (h : QkI sq t0 V 0 d sm) : sm = V := by
  obtain ⟨f, -, -, -, hv⟩ := h.ex
  rw [altS_zero] at hv
  omega
theorem QkI.step {sq t0 t d t1 t2 : Nat} {V sm : Int} (h : QkI sq t0 V t d sm) (hsq : sq ≤ h31 * h31) (ht : 0 < t) (h1 : nexT h31 sq t d = t1) (h2 : nexT h31 sq t1 (d + 2) = t2) :
    QkI sq t0 V t2 (d + 4) (sm + t - t1) ∧ t1 * 2 ≤ t ∧ t2 * 2 ≤ t1 ∧ d ≤ 126 := by
  obtain ⟨f, hf, hdf, htf, hv⟩ := h.ex
  have l1 := nexT_le (sq := sq) (t := t) (d := d) h31_pos hsq h.d1
  have l2 := nexT_le (sq := sq) (t := t1) (d := d + 2) h31_pos hsq (by have := h.d1; omega)
  rw [h1] at l1
  rw [h2] at l2
  have hst := h.st
  have hs0 := h.s0
  match f, hf, hdf, htf, hv with
  | 0, _, _, htf, _ => exfalso; simp at htf; omega
  | f + 1, hf, hdf, htf, hv =>
    refine ⟨⟨⟨f, by omega, by omega, ?_, ?_⟩, by omega, by omega, by omega⟩, l1, l2, by omega⟩
    · rw [show 2 * (f + 1) = 2 * f + 2 by omega, Nat.pow_add] at htf
      omega
    · rw [show 2 * (f + 1) = 2 * f + 1 + 1 by omega] at hv
      simp only [altS] at hv
      rw [h1, h2, show d + 2 + 2 = d + 4 by omega] at hv
      omega
theorem tdiv_nat (g D t : Nat) (h : g / D = t) : (g : Int).tdiv (D : Int) = (t : Int) ∧ (g : Int) / (D : Int) = (t : Int) := by
  have e : (g : Int) / (D : Int) = (t : Int) := by rw [← h]; exact (Int.natCast_ediv g D).symm
  exact ⟨by rw [Int.tdiv_eq_ediv_of_nonneg (by omega)]; exact e, e⟩
theorem r6_quick (r : Nat) (c : Bool) (w : World) (hr : r ≤ 2700000) :
    Calls Tryz.prog 334 #[.int .i64 (r : Int), .bool c] w fun e w' => e = .returned (.int .i64 (qkV r c)) ∧ ∃ d, w' = bw w d := by
  obtain ⟨hs1, hs2, -, -⟩ := quiSq hr
  rw [show h31 * h31 = 4611686018427387904 from rfl] at hs1 hs2
  have HX := Lib.hid (fun W => r6_high (quiX r) (quiX r) W hs2 hs2)
  obtain ⟨p, hp⟩ : ∃ p, r * 2620088056 = p := ⟨_, rfl⟩
  obtain ⟨p2, hp2⟩ : ∃ p2, p * 512 = p2 := ⟨_, rfl⟩
  obtain ⟨q, hq⟩ : ∃ q, r * 658911831 = q := ⟨_, rfl⟩
  obtain ⟨q2, hq2⟩ : ∃ q2, q / 4194304 = q2 := ⟨_, rfl⟩
  obtain ⟨X, hX⟩ : ∃ X, quiX r = X := ⟨_, rfl⟩
  have hX2 : p2 + q2 = X := by rw [← hX, ← hp2, ← hq2, ← hp, ← hq]; rfl
  obtain ⟨SQ, hSQ⟩ : ∃ SQ, higN h31 X X = SQ := ⟨_, rfl⟩
  unfold qkV
  rw [hX] at HX hs1 hs2 ⊢
  rw [hSQ] at HX hs1 ⊢
  have e1 : (r : Int) * 2620088056 = (p : Int) := by omega
  have k1 : IntKind.i64.wrap (p : Int) = (p : Int) := IntWalk.i64_in _ (by omega)
  have e2 : (p : Int) * 512 = (p2 : Int) := by omega
  have k2 : IntKind.i64.wrap (p2 : Int) = (p2 : Int) := IntWalk.i64_in _ (by omega)
  have e3 : (r : Int) * 658911831 = (q : Int) := by omega
  have k3 : IntKind.i64.wrap (q : Int) = (q : Int) := IntWalk.i64_in _ (by omega)
  have e4 : (q : Int) / 4194304 = (q2 : Int) := by omega
  have e5 : (p2 : Int) + (q2 : Int) = (X : Int) := by omega
  have k5 : IntKind.i64.wrap (X : Int) = (X : Int) := IntWalk.i64_in _ (by omega)
  have hsq : Hid (SQ ≤ h31 * h31 ∧ SQ ≤ 4611686018427387904) := Lib.hid ⟨hs1, hs1⟩
  have hXb := Lib.hid hs2
  clear hs1 hs2 hX hX2 hSQ hp hp2 hq hq2 hr
  refine lay_start ?_
  cases c
  · obtain ⟨V, hV⟩ : ∃ V, altS h31 SQ 64 (if false = true then h31 * h31 else X) (if false = true then 1 else 2) = V := ⟨_, rfl⟩
    rw [hV]
    rw [if_neg (by decide), if_neg (by decide)] at hV
    have HI : Hid (QkI SQ X V X 2 0) := Lib.hid ⟨⟨32, by decide, by decide, Nat.lt_of_le_of_lt hXb.out (by decide), by rw [Int.zero_add]; exact hV⟩, by decide, by decide, by omega⟩
    have HB : Hid (X ≤ 4611686018427387904) := hXb
    clear hV
    go_enter Tryz.func334, Tryz.ntmps334
    go_wp2_with (go_at_call 347; refine (HX.out _).mono ?_; rintro e w' ⟨rfl, hw⟩; rw [hw]; clear hw)
    go_loopw [7, 8, 9] (fun v7 v8 v9 wr => ∃ (t dn : Nat) (sm : Int) (dd : Ext), v7 = .int .i64 (t : Int) ∧ v8 = .int .i64 (dn : Int) ∧ v9 = .int .i64 sm ∧ wr = lay w [.inr dd] ∧ QkI SQ X V t dn sm) (fun v7 _ _ _ => (intOf v7).toNat)
    case atStart => exact ⟨X, 2, 0, noExt _, rfl, rfl, rfl, (bw_noExt _).symm, HI.out⟩
    case round =>
      obtain ⟨t, dn, sm, dd, rfl, rfl, rfl, rfl, hI⟩ := hrel
      by_cases ht0 : t = 0
      · subst ht0
        have hd := hI.done
        subst hd
        clear hI
        go_wp2_with fail
        go_ret
        exact ⟨rfl, lay_ex _ _⟩
      · obtain ⟨t1, h1⟩ : ∃ t1, nexT h31 SQ t dn = t1 := ⟨_, rfl⟩
        obtain ⟨t2, h2⟩ : ∃ t2, nexT h31 SQ t1 (dn + 2) = t2 := ⟨_, rfl⟩
        obtain ⟨hI2, l1, l2, ldn⟩ := hI.step hsq.out.1 (by omega) h1 h2
        have hst := hI.st
        have hs0 := hI.s0
        have hd1 := hI.d1
        have hB2 := HB.out
        have hst2 := hI2.st
        have hs02 := hI2.s0
        obtain ⟨D1, hD1⟩ : ∃ D1, dn * (dn + 1) = D1 := ⟨_, rfl⟩
        obtain ⟨D2, hD2⟩ : ∃ D2, (dn + 2) * (dn + 2 + 1) = D2 := ⟨_, rfl⟩
        have hD1b : 1 ≤ D1 ∧ D1 ≤ 40000 := by
          rw [← hD1]
          exact ⟨Nat.le_trans (by decide) (Nat.mul_le_mul hd1 (show 1 ≤ dn + 1 by omega)), Nat.le_trans (Nat.mul_le_mul (show dn ≤ 200 by omega) (show dn + 1 ≤ 200 by omega)) (by decide)⟩
        have hD2b : 1 ≤ D2 ∧ D2 ≤ 40000 := by
          rw [← hD2]
          exact ⟨Nat.le_trans (by decide) (Nat.mul_le_mul (show 1 ≤ dn + 2 by omega) (show 1 ≤ dn + 2 + 1 by omega)), Nat.le_trans (Nat.mul_le_mul (show dn + 2 ≤ 200 by omega) (show dn + 2 + 1 ≤ 200 by omega)) (by decide)⟩
        obtain ⟨g1, hg1⟩ : ∃ g1, higN h31 t SQ = g1 := ⟨_, rfl⟩
        obtain ⟨g2, hg2⟩ : ∃ g2, higN h31 t1 SQ = g2 := ⟨_, rfl⟩
        have H1 := Lib.hid (fun W => r6_high t SQ W (by omega) hsq.out.2)
        have H2 := Lib.hid (fun W => r6_high t1 SQ W (by omega) hsq.out.2)
        rw [hg1] at H1
        rw [hg2] at H2
        have q1 := tdiv_nat g1 D1 t1 (by rw [← h1, ← hg1, ← hD1]; rfl)
        have q2 := tdiv_nat g2 D2 t2 (by rw [← h2, ← hg2, ← hD2]; rfl)
        obtain ⟨q1a, q1b⟩ := q1
        obtain ⟨q2a, q2b⟩ := q2
        have f1 : (dn : Int) * ((dn : Int) + 1) = (D1 : Int) := by rw [← hD1]; exact (Int.natCast_mul _ _).symm
        obtain ⟨u1, hu1⟩ : ∃ u1 : Int, (dn : Int) + 1 = u1 := ⟨_, rfl⟩
        rw [hu1] at f1
        have f2 : ((dn + 2 : Nat) : Int) * ((dn + 2 + 1 : Nat) : Int) = (D2 : Int) := by rw [← hD2]; exact (Int.natCast_mul _ _).symm
        obtain ⟨u2, hu2⟩ : ∃ u2 : Int, (dn : Int) + 2 = u2 := ⟨_, rfl⟩
        obtain ⟨u3, hu3⟩ : ∃ u3 : Int, (dn : Int) + 3 = u3 := ⟨_, rfl⟩
        rw [show ((dn + 2 : Nat) : Int) = u2 by omega, show ((dn + 2 + 1 : Nat) : Int) = u3 by omega] at f2
        obtain ⟨u4, hu4⟩ : ∃ u4 : Nat, dn + 4 = u4 := ⟨_, rfl⟩
        have hu5 : (dn : Int) + 4 = (u4 : Int) := by omega
        have w1 : IntKind.i64.wrap u1 = u1 := IntWalk.i64_in _ (by omega)
        have w2 : IntKind.i64.wrap u2 = u2 := IntWalk.i64_in _ (by omega)
        have w3 : IntKind.i64.wrap u3 = u3 := IntWalk.i64_in _ (by omega)
        have w4 : IntKind.i64.wrap (u4 : Int) = (u4 : Int) := IntWalk.i64_in _ (by omega)
        have w5 : IntKind.i64.wrap (D1 : Int) = (D1 : Int) := IntWalk.i64_in _ (by omega)
        have w6 : IntKind.i64.wrap (D2 : Int) = (D2 : Int) := IntWalk.i64_in _ (by omega)
        have w7 : IntKind.i64.wrap (t1 : Int) = (t1 : Int) := IntWalk.i64_in _ (by omega)
        have w8 : IntKind.i64.wrap (t2 : Int) = (t2 : Int) := IntWalk.i64_in _ (by omega)
        obtain ⟨m1, hm1⟩ : ∃ m1 : Int, sm + (t : Int) = m1 := ⟨_, rfl⟩
        obtain ⟨m2, hm2⟩ : ∃ m2 : Int, m1 - (t1 : Int) = m2 := ⟨_, rfl⟩
        have w9 : IntKind.i64.wrap m1 = m1 := IntWalk.i64_in _ (by omega)
        have w10 : IntKind.i64.wrap m2 = m2 := IntWalk.i64_in _ (by omega)
        have z1 : ((D1 : Int) == 0) = false := beq_eq_false_iff_ne.2 (by omega)
        have z2 : ((D2 : Int) == 0) = false := beq_eq_false_iff_ne.2 (by omega)
        have z3 : (D1 : Int) ≠ 0 := by omega
        have z4 : (D2 : Int) ≠ 0 := by omega
        have g0 : (0 : Int) < (t : Int) := by omega
        have g0' : 0 < t := by omega
        have HN : Hid (QkI SQ X V t2 u4 m2) := Lib.hid (by rw [← hu4, ← hm2, ← hm1]; exact hI2)
        have HL := Lib.hid (show t2 < t by omega)
        clear hI hI2 l1 l2 ldn hst hs0 hd1 hB2 hst2 hs02 hD1b hD2b hg1 hg2 h1 h2 hD1 hD2 hu4
        go_wp2_with (go_at_call 347; first | (with_reducible refine (H1.out _).mono ?_; rintro e w' ⟨rfl, rfl⟩) | (with_reducible refine (H2.out _).mono ?_; rintro e w' ⟨rfl, rfl⟩))
        go_roundw
        case rel => exact ⟨t2, u4, m2, dd, rfl, rfl, rfl, rfl, HN.out⟩
        case measure => have := HL.out; simp [intOf]; omega
  · obtain ⟨V, hV⟩ : ∃ V, altS h31 SQ 64 (if true = true then h31 * h31 else X) (if true = true then 1 else 2) = V := ⟨_, rfl⟩
    rw [hV]
    rw [if_pos rfl, if_pos rfl] at hV
    have HI : Hid (QkI SQ 4611686018427387904 V 4611686018427387904 1 0) := Lib.hid ⟨⟨32, by decide, by decide, by decide, by rw [Int.zero_add]; exact hV⟩, by decide, by decide, by decide⟩
    have HB : Hid ((4611686018427387904 : Nat) ≤ 4611686018427387904) := Lib.hid (Nat.le_refl _)
    clear hV
    go_enter Tryz.func334, Tryz.ntmps334
    go_wp2_with (go_at_call 347; refine (HX.out _).mono ?_; rintro e w' ⟨rfl, hw⟩; rw [hw]; clear hw)
    go_loopw [7, 8, 9] (fun v7 v8 v9 wr => ∃ (t dn : Nat) (sm : Int) (dd : Ext), v7 = .int .i64 (t : Int) ∧ v8 = .int .i64 (dn : Int) ∧ v9 = .int .i64 sm ∧ wr = lay w [.inr dd] ∧ QkI SQ 4611686018427387904 V t dn sm) (fun v7 _ _ _ => (intOf v7).toNat)
    case atStart => exact ⟨4611686018427387904, 1, 0, noExt _, rfl, rfl, rfl, (bw_noExt _).symm, HI.out⟩
    case round =>
      obtain ⟨t, dn, sm, dd, rfl, rfl, rfl, rfl, hI⟩ := hrel
      by_cases ht0 : t = 0
      · subst ht0
        have hd := hI.done
        subst hd
        clear hI
        go_wp2_with fail
        go_ret
        exact ⟨rfl, lay_ex _ _⟩
      · obtain ⟨t1, h1⟩ : ∃ t1, nexT h31 SQ t dn = t1 := ⟨_, rfl⟩
        obtain ⟨t2, h2⟩ : ∃ t2, nexT h31 SQ t1 (dn + 2) = t2 := ⟨_, rfl⟩
        obtain ⟨hI2, l1, l2, ldn⟩ := hI.step hsq.out.1 (by omega) h1 h2
        have hst := hI.st
        have hs0 := hI.s0
        have hd1 := hI.d1
        have hB2 := HB.out
        have hst2 := hI2.st
        have hs02 := hI2.s0
        obtain ⟨D1, hD1⟩ : ∃ D1, dn * (dn + 1) = D1 := ⟨_, rfl⟩
        obtain ⟨D2, hD2⟩ : ∃ D2, (dn + 2) * (dn + 2 + 1) = D2 := ⟨_, rfl⟩
        have hD1b : 1 ≤ D1 ∧ D1 ≤ 40000 := by
          rw [← hD1]
          exact ⟨Nat.le_trans (by decide) (Nat.mul_le_mul hd1 (show 1 ≤ dn + 1 by omega)), Nat.le_trans (Nat.mul_le_mul (show dn ≤ 200 by omega) (show dn + 1 ≤ 200 by omega)) (by decide)⟩
        have hD2b : 1 ≤ D2 ∧ D2 ≤ 40000 := by
          rw [← hD2]
          exact ⟨Nat.le_trans (by decide) (Nat.mul_le_mul (show 1 ≤ dn + 2 by omega) (show 1 ≤ dn + 2 + 1 by omega)), Nat.le_trans (Nat.mul_le_mul (show dn + 2 ≤ 200 by omega) (show dn + 2 + 1 ≤ 200 by omega)) (by decide)⟩
        obtain ⟨g1, hg1⟩ : ∃ g1, higN h31 t SQ = g1 := ⟨_, rfl⟩
        obtain ⟨g2, hg2⟩ : ∃ g2, higN h31 t1 SQ = g2 := ⟨_, rfl⟩
        have H1 := Lib.hid (fun W => r6_high t SQ W (by omega) hsq.out.2)
        have H2 := Lib.hid (fun W => r6_high t1 SQ W (by omega) hsq.out.2)
        rw [hg1] at H1
        rw [hg2] at H2
        have q1 := tdiv_nat g1 D1 t1 (by rw [← h1, ← hg1, ← hD1]; rfl)
        have q2 := tdiv_nat g2 D2 t2 (by rw [← h2, ← hg2, ← hD2]; rfl)
        obtain ⟨q1a, q1b⟩ := q1
        obtain ⟨q2a, q2b⟩ := q2
        have f1 : (dn : Int) * ((dn : Int) + 1) = (D1 : Int) := by rw [← hD1]; exact (Int.natCast_mul _ _).symm
        obtain ⟨u1, hu1⟩ : ∃ u1 : Int, (dn : Int) + 1 = u1 := ⟨_, rfl⟩
        rw [hu1] at f1
        have f2 : ((dn + 2 : Nat) : Int) * ((dn + 2 + 1 : Nat) : Int) = (D2 : Int) := by rw [← hD2]; exact (Int.natCast_mul _ _).symm
        obtain ⟨u2, hu2⟩ : ∃ u2 : Int, (dn : Int) + 2 = u2 := ⟨_, rfl⟩
        obtain ⟨u3, hu3⟩ : ∃ u3 : Int, (dn : Int) + 3 = u3 := ⟨_, rfl⟩
        rw [show ((dn + 2 : Nat) : Int) = u2 by omega, show ((dn + 2 + 1 : Nat) : Int) = u3 by omega] at f2
        obtain ⟨u4, hu4⟩ : ∃ u4 : Nat, dn + 4 = u4 := ⟨_, rfl⟩
        have hu5 : (dn : Int) + 4 = (u4 : Int) := by omega
        have w1 : IntKind.i64.wrap u1 = u1 := IntWalk.i64_in _ (by omega)
        have w2 : IntKind.i64.wrap u2 = u2 := IntWalk.i64_in _ (by omega)
        have w3 : IntKind.i64.wrap u3 = u3 := IntWalk.i64_in _ (by omega)
        have w4 : IntKind.i64.wrap (u4 : Int) = (u4 : Int) := IntWalk.i64_in _ (by omega)
        have w5 : IntKind.i64.wrap (D1 : Int) = (D1 : Int) := IntWalk.i64_in _ (by omega)
        have w6 : IntKind.i64.wrap (D2 : Int) = (D2 : Int) := IntWalk.i64_in _ (by omega)
        have w7 : IntKind.i64.wrap (t1 : Int) = (t1 : Int) := IntWalk.i64_in _ (by omega)
        have w8 : IntKind.i64.wrap (t2 : Int) = (t2 : Int) := IntWalk.i64_in _ (by omega)
        obtain ⟨m1, hm1⟩ : ∃ m1 : Int, sm + (t : Int) = m1 := ⟨_, rfl⟩
        obtain ⟨m2, hm2⟩ : ∃ m2 : Int, m1 - (t1 : Int) = m2 := ⟨_, rfl⟩
        have w9 : IntKind.i64.wrap m1 = m1 := IntWalk.i64_in _ (by omega)
        have w10 : IntKind.i64.wrap m2 = m2 := IntWalk.i64_in _ (by omega)
        have z1 : ((D1 : Int) == 0) = false := beq_eq_false_iff_ne.2 (by omega)
        have z2 : ((D2 : Int) == 0) = false := beq_eq_false_iff_ne.2 (by omega)
        have z3 : (D1 : Int) ≠ 0 := by omega
        have z4 : (D2 : Int) ≠ 0 := by omega
        have g0 : (0 : Int) < (t : Int) := by omega
        have g0' : 0 < t := by omega
        have HN : Hid (QkI SQ 4611686018427387904 V t2 u4 m2) := Lib.hid (by rw [← hu4, ← hm2, ← hm1]; exact hI2)
        have HL := Lib.hid (show t2 < t by omega)
        clear hI hI2 l1 l2 ldn hst hs0 hd1 hB2 hst2 hs02 hD1b hD2b hg1 hg2 h1 h2 hD1 hD2 hu4
        go_wp2_with (go_at_call 347; first | (with_reducible refine (H1.out _).mono ?_; rintro e w' ⟨rfl, rfl⟩) | (with_reducible refine (H2.out _).mono ?_; rintro e w' ⟨rfl, rfl⟩))
        go_roundw
        case rel => exact ⟨t2, u4, m2, dd, rfl, rfl, rfl, rfl, HN.out⟩
        case measure => have := HL.out; simp [intOf]; omega
theorem qkV_sin {r : Nat} : qkV r false = altS h31 (higN h31 (quiX r) (quiX r)) 64 (quiX r) 2 := by
  unfold qkV
  rw [if_neg (by decide), if_neg (by decide)]
theorem qkV_cos {r : Nat} : qkV r true = altS h31 (higN h31 (quiX r) (quiX r)) 64 (h31 * h31) 1 := by
  unfold qkV
  rw [if_pos rfl, if_pos rfl]
attribute [irreducible] qkV
end Go.Proofs.YtnnmfdeeicpdlaaGreat
/- The reference's sines and cosines over arcs. -/
namespace Go.Proofs.YtnnmfdeeicpdlaaGreat
open Go.RowKit

def qckV (n : Int) : Int :=
  if 2 ≤ n % 21600000 / 5400000 then -(if 2700000 < n % 21600000 % 5400000 then qkV (5400000 - n % 21600000 % 5400000).toNat (!decide (n % 21600000 / 5400000 % 2 = 1)) else qkV (n % 21600000 % 5400000).toNat (decide (n % 21600000 / 5400000 % 2 = 1)))
  else (if 2700000 < n % 21600000 % 5400000 then qkV (5400000 - n % 21600000 % 5400000).toNat (!decide (n % 21600000 / 5400000 % 2 = 1)) else qkV (n % 21600000 % 5400000).toNat (decide (n % 21600000 / 5400000 % 2 = 1)))
theorem qk_sin {r : Nat} (h1 : 1 ≤ r) (h2 : r ≤ 2700000) (h3 : r ≠ 1800000) : (octS r : Int) * 4294967296 + 700 ≤ qkV r false ∧ qkV r false + 700 ≤ ((octS r : Int) + 1) * 4294967296 := by
  have h := quick_sin h2
  rw [← qkV_sin] at h
  exact quick_cell h (octS_bt h1 h2 h3)
theorem qk_cos {r : Nat} (h1 : 1 ≤ r) (h2 : r ≤ 2700000) : (octC r : Int) * 4294967296 + 700 ≤ qkV r true ∧ qkV r true + 700 ≤ ((octC r : Int) + 1) * 4294967296 := by
  have h := quick_cos h2
  rw [← qkV_cos] at h
  exact quick_cell h (octC_bt h1 h2)
theorem exaQ_no {f : Nat} (h : exaQ f = false) : f ≠ 0 ∧ f ≠ 1800000 ∧ f ≠ 5400000 := by
  unfold exaQ at h
  simp only [Bool.or_eq_false_iff, beq_eq_false_iff_ne] at h
  omega
theorem bb_no {n : Int} (h : exaQ (foldT n) = false) : bHi n = bLo n + 1 ∧ bLo n = if souB n then -((sinQ (foldT n) : Int) + 1) else (sinQ (foldT n) : Int) := by
  rw [bLo_at, bHi_at]
  unfold hiQ oneQ
  rw [h]
  cases souB n <;> simp <;> omega
theorem bb_ex {n : Int} (h : exaQ (foldT n) = true) : bHi n = bLo n ∧ bLo n = if souB n then -(sinQ (foldT n) : Int) else (sinQ (foldT n) : Int) := by
  rw [bLo_at, bHi_at]
  unfold hiQ oneQ
  rw [h]
  cases souB n <;> simp
theorem qck_cell {n : Int} (h : exaQ (foldT n) = false) : bLo n * 4294967296 + 700 ≤ qckV n ∧ qckV n + 700 ≤ (bLo n + 1) * 4294967296 := by
  obtain ⟨h0, h1, h2⟩ := exaQ_no h
  rw [(bb_no h).2]
  clear h
  have hf : foldT n = if 10800000 < n % 21600000 then (if 16200000 < n % 21600000 then (21600000 - n % 21600000).toNat else (n % 21600000 - 10800000).toNat) else (if 5400000 < n % 21600000 then (10800000 - n % 21600000).toNat else (n % 21600000).toNat) := rfl
  have hs : souB n = decide (10800000 < n % 21600000) := rfl
  unfold qckV
  obtain ⟨m, hm⟩ : ∃ m, n % 21600000 = m := ⟨_, rfl⟩
  have hm2 : 0 ≤ m ∧ m < 21600000 := by omega
  rw [hm] at hf hs ⊢
  generalize foldT n = f at *
  rw [hs]
  clear hs hm
  have key : ∀ (r : Nat) (c : Bool), r ≤ 2700000 → 1 ≤ r → ((c = false ∧ f = r) ∨ (c = true ∧ f = 5400000 - r)) → (sinQ f : Int) * 4294967296 + 700 ≤ qkV r c ∧ qkV r c + 700 ≤ ((sinQ f : Int) + 1) * 4294967296 := by
    intro r c hr hr1 hc
    rcases hc with ⟨rfl, rfl⟩ | ⟨rfl, e⟩
    · rw [sinQ_s h0 h1 hr]
      exact qk_sin hr1 hr h1
    · rcases Nat.lt_or_ge r 2700000 with hlt | hge
      · rw [sinQ_c (by omega) (by omega), show 5400000 - f = r by omega]
        exact qk_cos hr1 hr
      · obtain rfl : r = 2700000 := by omega
        rw [e, show (5400000 - 2700000 : Nat) = 2700000 from rfl, sinQ_s (by decide) (by decide) (by decide), oct_mid]
        exact qk_cos hr1 hr
  obtain ⟨q, hq⟩ : ∃ q, m / 5400000 = q := ⟨_, rfl⟩
  obtain ⟨r, hr⟩ : ∃ r, m % 5400000 = r := ⟨_, rfl⟩
  rw [hq, hr]
  have hqr : m = 5400000 * q + r ∧ 0 ≤ r ∧ r < 5400000 := by omega
  obtain rfl | rfl | rfl | rfl : q = 0 ∨ q = 1 ∨ q = 2 ∨ q = 3 := by omega
  · rw [if_neg (show ¬ (2 : Int) ≤ 0 by decide), show decide ((0 : Int) % 2 = 1) = false by decide, decide_eq_false (show ¬ 10800000 < m by omega)]
    rw [if_neg (show ¬ 10800000 < m by omega), if_neg (show ¬ 5400000 < m by omega)] at hf
    simp only [Bool.false_eq_true, if_false]
    split
    · exact key _ _ (by omega) (by omega) (.inr ⟨rfl, by omega⟩)
    · exact key _ _ (by omega) (by omega) (.inl ⟨rfl, by omega⟩)
  · rw [if_neg (show ¬ (2 : Int) ≤ 1 by decide), show decide ((1 : Int) % 2 = 1) = true by decide, decide_eq_false (show ¬ 10800000 < m by omega)]
    rw [if_neg (show ¬ 10800000 < m by omega)] at hf
    simp only [Bool.false_eq_true, if_false]
    split
    · rw [if_pos (show 5400000 < m by omega)] at hf
      exact key _ _ (by omega) (by omega) (.inl ⟨rfl, by omega⟩)
    · have : r ≠ 0 := by intro e; rw [if_neg (show ¬ 5400000 < m by omega)] at hf; omega
      rw [if_pos (show 5400000 < m by omega)] at hf
      exact key _ _ (by omega) (by omega) (.inr ⟨rfl, by omega⟩)
  · have hr0 : r ≠ 0 := by
      intro e
      rw [if_neg (show ¬ 10800000 < m by omega), if_pos (show 5400000 < m by omega)] at hf
      omega
    rw [if_pos (show (2 : Int) ≤ 2 by decide), show decide ((2 : Int) % 2 = 1) = false by decide, decide_eq_true (show 10800000 < m by omega)]
    rw [if_pos (show 10800000 < m by omega), if_neg (show ¬ 16200000 < m by omega)] at hf
    simp only [if_true]
    split
    · have := key (5400000 - r).toNat (!false) (by omega) (by omega) (.inr ⟨rfl, by omega⟩)
      omega
    · have := key r.toNat false (by omega) (by omega) (.inl ⟨rfl, by omega⟩)
      omega
  · rw [if_pos (show (2 : Int) ≤ 3 by decide), show decide ((3 : Int) % 2 = 1) = true by decide, decide_eq_true (show 10800000 < m by omega)]
    rw [if_pos (show 10800000 < m by omega)] at hf
    have hr0 : r ≠ 0 := by
      intro e
      rw [if_neg (show ¬ 16200000 < m by omega)] at hf
      omega
    rw [if_pos (show 16200000 < m by omega)] at hf
    simp only [if_true]
    split
    · have := key (5400000 - r).toNat (!true) (by omega) (by omega) (.inl ⟨rfl, by omega⟩)
      omega
    · have := key r.toNat true (by omega) (by omega) (.inr ⟨rfl, by omega⟩)
      omega
theorem qkV_bd {r : Nat} {c : Bool} (h : r ≤ 2700000) : -4611686018427388904 ≤ qkV r c ∧ qkV r c ≤ 4611686018427388904 := by
  have key : ∀ {v : Int} {V : Rat}, Nr ((v : Rat) / m62) V (210 / m62) → 0 ≤ V → V ≤ 1 → -4611686018427388904 ≤ v ∧ v ≤ 4611686018427388904 := by
    intro v V hn h0 h1
    obtain ⟨a, b⟩ := hn
    unfold m62 at a b
    have c1 : (v : Rat) ≤ ((4611686018427388904 : Int) : Rat) := by
      rw [show ((4611686018427388904 : Int) : Rat) = 4611686018427388904 from rfl]
      grind
    have c2 : ((-4611686018427388904 : Int) : Rat) ≤ (v : Rat) := by
      rw [show ((-4611686018427388904 : Int) : Rat) = -4611686018427388904 from rfl]
      grind
    exact ⟨Rat.intCast_le_intCast.1 c2, Rat.intCast_le_intCast.1 c1⟩
  have hx := xi_in (n := r) (by omega)
  cases c
  · have hs := sin_in (n := r) (by omega)
    have h1 : Nr ((qkV r false : Rat) / m62) (sinT r) (210 / m62) := by rw [qkV_sin]; exact quick_sin h
    exact key h1 hs.1 (Rat.le_trans hs.2 (Rat.le_trans hx.2 (by decide +kernel)))
  · have hc := cos_in (n := r) (by omega)
    have h1 : Nr ((qkV r true : Rat) / m62) (cosT r) (210 / m62) := by rw [qkV_cos]; exact quick_cos h
    exact key h1 (Rat.le_trans (by decide +kernel) hc.1) hc.2
theorem ex_val {n : Int} {k : Nat} (hk : k < 12) (h : n % 21600000 = 1800000 * (k : Int)) :
    (k % 3 = 0 → exaQ (foldT n) = true ∧ bLo n = (if k = 3 then 1073741824 else if k = 9 then -1073741824 else 0)) ∧
    (k % 6 = 2 ∨ k % 6 = 4 → exaQ (foldT n) = false) ∧
    (k % 6 = 1 ∨ k % 6 = 5 → exaQ (foldT n) = true ∧ bLo n = (if k < 6 then 536870912 else -536870912)) := by
  have hf : foldT n = if 10800000 < n % 21600000 then (if 16200000 < n % 21600000 then (21600000 - n % 21600000).toNat else (n % 21600000 - 10800000).toNat) else (if 5400000 < n % 21600000 then (10800000 - n % 21600000).toNat else (n % 21600000).toNat) := rfl
  have hs : souB n = decide (10800000 < n % 21600000) := rfl
  rw [h] at hf hs
  have tr : ∀ f v, foldT n = f → exaQ f = true → ((sinQ f : Int) = v) → exaQ (foldT n) = true ∧ bLo n = if souB n then -v else v := by
    intro f v e1 e2 e3
    have e4 : exaQ (foldT n) = true := by rw [e1]; exact e2
    refine ⟨e4, ?_⟩
    rw [(bb_ex e4).2, e1, e3]
  have s0 : ((sinQ 0 : Nat) : Int) = 0 := by rw [sinQ_0]; rfl
  have s1 : ((sinQ 1800000 : Nat) : Int) = 536870912 := by rw [sinQ_h]; rfl
  have s2 : ((sinQ 5400000 : Nat) : Int) = 1073741824 := by rw [sinQ_q]; rfl
  obtain rfl | rfl | rfl | rfl | rfl | rfl | rfl | rfl | rfl | rfl | rfl | rfl : k = 0 ∨ k = 1 ∨ k = 2 ∨ k = 3 ∨ k = 4 ∨ k = 5 ∨ k = 6 ∨ k = 7 ∨ k = 8 ∨ k = 9 ∨ k = 10 ∨ k = 11 := by omega
  all_goals
    refine ⟨fun h1 => ?_, fun h1 => ?_, fun h1 => ?_⟩
    · first
        | (exfalso; revert h1; decide)
        | (have := tr 0 0 hf (by decide) s0; rw [hs] at this; exact this)
        | (have := tr 5400000 1073741824 hf (by decide) s2; rw [hs] at this; exact this)
    · first
        | (exfalso; revert h1; decide)
        | (rw [hf]; decide)
    · first
        | (exfalso; revert h1; decide)
        | (have := tr 1800000 536870912 hf (by decide) s1; rw [hs] at this; exact this)
theorem ex_not {n : Int} (h : n % 21600000 % 1800000 ≠ 0) : exaQ (foldT n) = false := by
  have hf : foldT n = if 10800000 < n % 21600000 then (if 16200000 < n % 21600000 then (21600000 - n % 21600000).toNat else (n % 21600000 - 10800000).toNat) else (if 5400000 < n % 21600000 then (10800000 - n % 21600000).toNat else (n % 21600000).toNat) := rfl
  generalize foldT n = f at *
  unfold exaQ
  simp only [Bool.or_eq_false_iff, beq_eq_false_iff_ne]
  split at hf <;> split at hf <;> omega
end Go.Proofs.YtnnmfdeeicpdlaaGreat
/- The reference's quick side: what it decides is right. No walk. -/
namespace Go.Proofs.YtnnmfdeeicpdlaaGreat

theorem sin_TU {r : Nat} (hr : r ≤ 2700000) : Nr (sinT r) (sinU r) (1 / m62) ∧ Nr (cosT r) (cosU r) (1 / m62) := by
  have hx4 := xi_in (n := r) (by omega)
  have hq := sq_in hx4
  have hs : sml ≤ 1 / m62 := by unfold sml m62; grind
  have h0 : (0 : Rat) ≤ sml := by unfold sml; grind
  have a2 := tay_more hq.1 (by grind) 8 (m := 14) (d := 2) (by decide)
  have a1 := tay_more hq.1 (by grind) 8 (m := 14) (d := 1) (by decide)
  have f2 := facT_sml (d := 2) (by decide +kernel)
  have f1 := facT_sml (d := 1) (by decide +kernel)
  have b2 := ((Nr.refl 1).sub (a2.symm)).mulc hx4.1 (show xi r ≤ 1 by grind) (by have := a2.pos; grind)
  have b1 := (Nr.refl 1).sub a1.symm
  unfold sinT sinU cosT cosU
  exact ⟨b2.le (by grind), b1.le (by grind)⟩
theorem qk_nearU {r : Nat} (hr : r ≤ 2700000) : Nr ((qkV r false : Rat) / m62) (sinU r) (211 / m62) ∧ Nr ((qkV r true : Rat) / m62) (cosU r) (211 / m62) := by
  have h1 := quick_sin hr
  have h2 := quick_cos hr
  rw [← qkV_sin] at h1
  rw [← qkV_cos] at h2
  obtain ⟨g1, g2⟩ := sin_TU hr
  exact ⟨(h1.trans g1).le (by unfold m62; grind), (h2.trans g2).le (by unfold m62; grind)⟩
theorem qck_at {n : Nat} (hn : n < 5400000) : qckV (n : Int) = (if 2700000 < n then qkV (5400000 - n) true else qkV n false) ∧ qckV ((n : Int) + 5400000) = (if 2700000 < n then qkV (5400000 - n) false else qkV n true) := by
  unfold qckV
  rw [show (n : Int) % 21600000 = (n : Int) by omega, show ((n : Int) + 5400000) % 21600000 = (n : Int) + 5400000 by omega]
  rw [show (n : Int) / 5400000 = 0 by omega, show (n : Int) % 5400000 = (n : Int) by omega, show ((n : Int) + 5400000) / 5400000 = 1 by omega, show ((n : Int) + 5400000) % 5400000 = (n : Int) by omega]
  rw [if_neg (show ¬ (2 : Int) ≤ 0 by decide), if_neg (show ¬ (2 : Int) ≤ 1 by decide), show decide ((0 : Int) % 2 = 1) = false by decide, show decide ((1 : Int) % 2 = 1) = true by decide]
  by_cases c : 2700000 < n
  · rw [if_pos (show (2700000 : Int) < (n : Int) by omega), if_pos c, if_pos (show (2700000 : Int) < (n : Int) by omega), if_pos c, show (5400000 - (n : Int)).toNat = 5400000 - n by omega]
    exact ⟨rfl, rfl⟩
  · rw [if_neg (show ¬ (2700000 : Int) < (n : Int) by omega), if_neg c, if_neg (show ¬ (2700000 : Int) < (n : Int) by omega), if_neg c]
    exact ⟨rfl, rfl⟩
theorem qck_nearU {n : Nat} (hn : n < 5400000) : Nr ((qckV (n : Int) : Rat) / m62) (sU n) (211 / m62) ∧ Nr ((qckV ((n : Int) + 5400000) : Rat) / m62) (cU n) (211 / m62) := by
  obtain ⟨e1, e2⟩ := qck_at hn
  rw [e1, e2]
  unfold sU cU
  by_cases c : 2700000 < n
  · rw [if_pos c, if_pos c, if_pos c, if_pos c]
    have := qk_nearU (r := 5400000 - n) (by omega)
    exact ⟨this.2, this.1⟩
  · rw [if_neg c, if_neg c, if_neg c, if_neg c]
    exact qk_nearU (by omega)
theorem xi_low {r : Nat} (h : 1 ≤ r) : 1 / 3438000 ≤ xi r := by
  have h1 : (piD : Rat) ≤ (piN : Rat) * 3438000 := by exact_mod_cast (show piD ≤ piN * 3438000 by decide +kernel)
  have hd : (0 : Rat) < (piD : Rat) := by exact_mod_cast (show 0 < piD by decide +kernel)
  have q1 : 1 / 3438000 ≤ (piN : Rat) / (piD : Rat) := by
    refine Rat.le_of_mul_le_mul_right (c := (piD : Rat)) ?_ hd
    rw [Rat.div_mul_cancel (by grind)]
    grind
  have hr : (1 : Rat) ≤ (r : Rat) := by exact_mod_cast h
  unfold xi
  have := rmul (show (0 : Rat) ≤ 1 by decide) hr (show (0 : Rat) ≤ 1 / 3438000 by grind) q1
  grind
theorem sinU_low {r : Nat} (h : 1 ≤ r) (hr : r ≤ 2700000) : 1 / 6000000 ≤ sinU r ∧ sinU r ≤ 1 := by
  have hx := xi_in (n := r) (by omega)
  have hq := sq_in hx
  obtain ⟨t0, t1⟩ := tay_in hq.1 (by grind) (m := 22) (d := 2) (by decide)
  have hl := xi_low h
  have hs := sinU_in (n := r) (by omega)
  unfold sinU at *
  generalize tay (xi r * xi r) 2 22 = t at *
  have := rmul (show (0 : Rat) ≤ 1 / 3438000 by grind) hl (show (0 : Rat) ≤ 17 / 25 by grind) (show 17 / 25 ≤ 1 - t by grind)
  constructor <;> grind
theorem sU_in {n : Nat} (h : 1 ≤ n) (hn : n < 5400000) : (1 / 6000000 ≤ sU n ∧ sU n ≤ 1) ∧ 1 / 6000000 ≤ cU n ∧ cU n ≤ 1 := by
  unfold sU cU
  by_cases c : 2700000 < n
  · rw [if_pos c, if_pos c]
    have h1 := sinU_low (r := 5400000 - n) (by omega) (by omega)
    have h2 := cosU_in (n := 5400000 - n) (by omega)
    exact ⟨⟨Rat.le_trans (show (1 : Rat) / 6000000 ≤ 17 / 25 by decide +kernel) h2.1, h2.2⟩, h1⟩
  · rw [if_neg c, if_neg c]
    have h1 := sinU_low h (by omega)
    have h2 := cosU_in (n := n) (by omega)
    exact ⟨h1, Rat.le_trans (show (1 : Rat) / 6000000 ≤ 17 / 25 by decide +kernel) h2.1, h2.2⟩
def q62 : Nat := 4611686018427388200
theorem q62_ok : 1 + 211 / 4611686018427387904 ≤ (q62 : Rat) * (1 / 4611686018427387904) := by decide +kernel
theorem icast_le {n : Nat} {v : Int} (h : (v : Rat) ≤ (n : Rat)) : v ≤ (n : Int) := by exact_mod_cast h
theorem qck_pos {v : Int} {u : Rat} (h : Nr ((v : Rat) / m62) u (211 / m62)) (h0 : 1 / 6000000 ≤ u) (h1 : u ≤ 1) : 0 ≤ v ∧ v ≤ (q62 : Int) := by
  obtain ⟨a, b⟩ := h
  have e : (v : Rat) / m62 = (v : Rat) * (1 / 4611686018427387904) := by unfold m62; grind
  rw [e] at a b
  unfold m62 at a b
  have c1 : (0 : Rat) ≤ (v : Rat) := by grind
  have hq := q62_ok
  have c2 : (v : Rat) ≤ (q62 : Rat) := by
    refine Rat.le_of_mul_le_mul_right (c := 1 / 4611686018427387904) ?_ (by grind)
    generalize (q62 : Rat) = q at *
    grind
  exact ⟨by exact_mod_cast c1, icast_le c2⟩
def qsS (n : Nat) : Int := qckV (n : Int) / 4
def qsC (n : Nat) : Int := qckV ((n : Int) + 5400000) / 4
def qsT (n : Nat) (x y : Int) : Int := (x * qsS n - y * qsC n) / 1073741824
def qsM (x y : Int) : Int := (x + y) * 65 / 1073741824 + 2
def qsV (n : Nat) (x y : Int) : Int := if qsM x y < qsT n x y then 1 else if qsT n x y < -(qsM x y) then -1 else 0
theorem div4_near {v : Int} {u : Rat} (h : Nr ((v : Rat) / m62) u (211 / m62)) : Nr (((v / 4 : Int) : Rat) * (1 / 1152921504606846976)) u (54 * (1 / 1152921504606846976)) := by
  obtain ⟨a, b⟩ := h
  have e : (v : Rat) / m62 = (v : Rat) * (1 / 4611686018427387904) := by unfold m62; grind
  rw [e] at a b
  unfold m62 at a b
  have h1 := icast (show v / 4 * 4 ≤ v by omega)
  have h2 := icast (show v ≤ v / 4 * 4 + 3 by omega)
  push_cast at h1 h2
  generalize ((v / 4 : Int) : Rat) = q at *
  constructor <;> grind
theorem qs_ok {n : Nat} (hn : n < 5400000) {x y : Int} (x0 : 0 ≤ x) (y0 : 0 ≤ y) : (qsM x y < qsT n x y → 0 < crU n x y) ∧ (qsT n x y < -(qsM x y) → crU n x y < 0) := by
  obtain ⟨h1, h2⟩ := qck_nearU hn
  have d1 := div4_near h1
  have d2 := div4_near h2
  change Nr ((qsS n : Rat) * _) _ _ at d1
  change Nr ((qsC n : Rat) * _) _ _ at d2
  unfold qsM qsT crU
  generalize qsS n = s at *
  generalize qsC n = c at *
  generalize sU n = su at *
  generalize cU n = cu at *
  clear h1 h2
  obtain ⟨W, hW⟩ : ∃ W, x * s - y * c = W := ⟨_, rfl⟩
  rw [hW]
  have a0 : (0 : Rat) ≤ (x : Rat) := by exact_mod_cast x0
  have b0 : (0 : Rat) ≤ (y : Rat) := by exact_mod_cast y0
  obtain ⟨p1, p2⟩ := d1
  obtain ⟨p3, p4⟩ := d2
  have m1 := Rat.mul_le_mul_of_nonneg_left p1 a0
  have m2 := Rat.mul_le_mul_of_nonneg_left p2 a0
  have m3 := Rat.mul_le_mul_of_nonneg_left p3 b0
  have m4 := Rat.mul_le_mul_of_nonneg_left p4 b0
  have hWr : (W : Rat) = (x : Rat) * (s : Rat) - (y : Rat) * (c : Rat) := by rw [← hW]; push_cast; rfl
  generalize (s : Rat) = s' at *
  generalize (c : Rat) = c' at *
  constructor
  · intro h
    have hb := icast (show (x + y) * 65 + 1 ≤ W by omega)
    push_cast at hb
    rw [hWr] at hb
    generalize (x : Rat) = x' at *
    generalize (y : Rat) = y' at *
    grind
  · intro h
    have hb := icast (show W ≤ -((x + y) * 65) - 1 by omega)
    push_cast at hb
    rw [hWr] at hb
    generalize (x : Rat) = x' at *
    generalize (y : Rat) = y' at *
    grind
theorem qs_split (x y s c : Int) : x * (s / 1073741824) - y * (c / 1073741824) + (x * (s % 1073741824) - y * (c % 1073741824)) / 1073741824 = (x * s - y * c) / 1073741824 := by
  have e1 := Int.mul_ediv_add_emod s 1073741824
  have e2 := Int.mul_ediv_add_emod c 1073741824
  have e : x * s - y * c = (x * (s % 1073741824) - y * (c % 1073741824)) + 1073741824 * (x * (s / 1073741824) - y * (c / 1073741824)) := by
    generalize s / 1073741824 = a at *
    generalize s % 1073741824 = b at *
    generalize c / 1073741824 = d at *
    generalize c % 1073741824 = f at *
    rw [← e1, ← e2]
    grind
  rw [e, Int.add_mul_ediv_left _ _ (by decide)]
  omega
end Go.Proofs.YtnnmfdeeicpdlaaGreat
/- The reference's sine: exact values. -/
namespace Go.Proofs.YtnnmfdeeicpdlaaGreat
open Go.RowKit

theorem mod12 {n : Int} (h : n % 21600000 % 1800000 = 0) : ∃ k : Nat, k < 12 ∧ n % 21600000 = 1800000 * (k : Int) :=
  ⟨(n % 21600000 / 1800000).toNat, by omega, by omega⟩
set_option maxHeartbeats 4000000 in
set_option maxRecDepth 100000 in
theorem r6_Exact (n : Int) (w : World) :
    Calls Tryz.prog 292 #[.int .i64 n] w fun e w' => e = .returned (.tuple #[.int .i64 (if exaQ (foldT n) then bLo n else 0), .bool (exaQ (foldT n))]) ∧ ∃ d, w' = bw w d := by
  refine lay_start ?_
  have hc := tmod_turn n
  obtain ⟨t, ht⟩ : ∃ t, n.tmod 21600000 = t := ⟨_, rfl⟩
  rw [ht] at hc
  have kt : IntKind.i64.wrap t = t := IntWalk.i64_in _ (by omega)
  by_cases h0 : n % 21600000 % 1800000 = 0
  · obtain ⟨k, hk, hm⟩ := mod12 h0
    obtain ⟨v1, v2, v3⟩ := ex_val hk hm
    have hc2 : t = 1800000 * (k : Int) ∨ t = 1800000 * (k : Int) - 21600000 := by omega
    clear h0 hm hc
    generalize exaQ (foldT n) = x at *
    generalize bLo n = b at *
    obtain rfl | rfl | rfl | rfl | rfl | rfl | rfl | rfl | rfl | rfl | rfl | rfl : k = 0 ∨ k = 1 ∨ k = 2 ∨ k = 3 ∨ k = 4 ∨ k = 5 ∨ k = 6 ∨ k = 7 ∨ k = 8 ∨ k = 9 ∨ k = 10 ∨ k = 11 := by omega
    all_goals
      first
        | (obtain ⟨e1, e2⟩ := v1 rfl; simp only [Nat.reduceEqDiff, if_true, if_false] at e2; subst e1; subst e2)
        | (have e1 := v2 (.inl rfl); subst e1)
        | (have e1 := v2 (.inr rfl); subst e1)
        | (obtain ⟨e1, e2⟩ := v3 (.inl rfl); simp only [Nat.reduceLT, if_true, if_false] at e2; subst e1; subst e2)
        | (obtain ⟨e1, e2⟩ := v3 (.inr rfl); simp only [Nat.reduceLT, if_true, if_false] at e2; subst e1; subst e2)
      clear v1 v2 v3 hk
      simp at hc2
      rcases hc2 with rfl | rfl
      all_goals
        go_enter Tryz.func292, Tryz.ntmps292
        go_wp2_with fail
        go_ret2
        exact ⟨rfl, lay_ex _ _⟩
  · have hx := ex_not h0
    rw [hx]
    obtain ⟨m, hm⟩ : ∃ m, n % 21600000 = m := ⟨_, rfl⟩
    rw [hm] at hc h0
    have hm2 : 0 ≤ m ∧ m < 21600000 := by omega
    have e1 : m.tmod 1800000 = m % 1800000 := Int.tmod_eq_emod_of_nonneg hm2.1
    obtain ⟨u, hu⟩ : ∃ u, m % 1800000 = u := ⟨_, rfl⟩
    rw [hu] at e1 h0
    have ku : IntKind.i64.wrap u = u := IntWalk.i64_in _ (by omega)
    have z1 : (u != 0) = true := bne_iff_ne.2 h0
    have z2 : (u == 0) = false := beq_eq_false_iff_ne.2 h0
    rcases hc with hc | ⟨hc, hc2⟩
    · subst hc
      have h1 : ¬ t < 0 := by omega
      clear hx hm2 ku
      go_enter Tryz.func292, Tryz.ntmps292
      go_wp2_with fail
      go_ret2
      exact ⟨rfl, lay_ex _ _⟩
    · have km : IntKind.i64.wrap m = m := IntWalk.i64_in _ (by omega)
      clear hx hm2 ku
      go_enter Tryz.func292, Tryz.ntmps292
      go_wp2_with fail
      go_ret2
      exact ⟨rfl, lay_ex _ _⟩
end Go.Proofs.YtnnmfdeeicpdlaaGreat
/- The reference's quick sine of any angle, its floor, its ends. -/
namespace Go.Proofs.YtnnmfdeeicpdlaaGreat
set_option maxHeartbeats 4000000
set_option maxRecDepth 100000
open Go.RowKit

theorem r6_Quick (n : Int) (w : World) :
    Calls Tryz.prog 293 #[.int .i64 n] w fun e w' => e = .returned (.int .i64 (qckV n)) ∧ ∃ d, w' = bw w d := by
  refine lay_start ?_
  have hc := tmod_turn n
  obtain ⟨t, ht⟩ : ∃ t, n.tmod 21600000 = t := ⟨_, rfl⟩
  rw [ht] at hc
  unfold qckV
  obtain ⟨m, hm⟩ : ∃ m, n % 21600000 = m := ⟨_, rfl⟩
  rw [hm] at hc ⊢
  have hm2 : 0 ≤ m ∧ m < 21600000 := by omega
  have kt : IntKind.i64.wrap t = t := IntWalk.i64_in _ (by omega)
  have km : IntKind.i64.wrap m = m := IntWalk.i64_in _ (by omega)
  have eq : m.tdiv 5400000 = m / 5400000 := Int.tdiv_eq_ediv_of_nonneg hm2.1
  have er : m.tmod 5400000 = m % 5400000 := Int.tmod_eq_emod_of_nonneg hm2.1
  have hqr : 5400000 * (m / 5400000) + m % 5400000 = m := by omega
  obtain ⟨q, hq⟩ : ∃ q, m / 5400000 = q := ⟨_, rfl⟩
  obtain ⟨r, hr⟩ : ∃ r, m % 5400000 = r := ⟨_, rfl⟩
  rw [hq, hr] at hqr ⊢
  rw [hq] at eq
  rw [hr] at er
  have hq2 : 0 ≤ q ∧ q ≤ 3 := by omega
  have hr2 : 0 ≤ r ∧ r < 5400000 := by omega
  have kr : IntKind.i64.wrap r = r := IntWalk.i64_in _ (by omega)
  obtain ⟨s, hs⟩ : ∃ s, 5400000 - r = s := ⟨_, rfl⟩
  have ks : IntKind.i64.wrap s = s := IntWalk.i64_in _ (by omega)
  rw [hs]
  have hst : t = m ∧ ¬ t < 0 ∨ t < 0 ∧ t + 21600000 = m := by omega
  by_cases hb : 2700000 < r
  · rw [if_pos hb]
    have Hq : ∀ c, Hid (∀ W, Calls Tryz.prog 334 #[.int .i64 s, .bool c] W fun e w' => e = .returned (.int .i64 (qkV s.toNat c)) ∧ ∃ d, w' = bw W d) := fun c => Lib.hid fun W => by
      have := r6_quick s.toNat c W (by omega)
      rwa [show ((s.toNat : Nat) : Int) = s by omega] at this
    have hv : ∀ c, -4611686018427388904 ≤ qkV s.toNat c ∧ qkV s.toNat c ≤ 4611686018427388904 := fun c => qkV_bd (by omega)
    have g := decide_eq_true hb
    generalize s.toNat = sn at *
    clear hm2 hc hqr hr2
    have hq4 : (q = 0 ∨ q = 2) ∨ (q = 1 ∨ q = 3) := by omega
    rcases hq4 with hq4 | hq4
    · have H := Hq true
      have hvv := hv true
      clear Hq hv hq hq2
      rcases hq4 with rfl | rfl
      all_goals
        simp only [Int.reduceMod, Int.reduceEq, decide_false, Bool.not_false, Int.reduceLE, if_true, if_false]
        generalize qkV sn true = V at *
        have kV : IntKind.i64.wrap (-V) = -V := IntWalk.i64_in _ (by omega)
        clear hvv
        rcases hst with ⟨rfl, h1⟩ | ⟨h1, h2⟩
        all_goals
          go_enter Tryz.func293, Tryz.ntmps293
          go_wp2_with (go_at_call 334; refine (H.out _).mono ?_; rintro e w' ⟨rfl, d1, rfl⟩)
          go_ret
          exact ⟨rfl, lay_ex _ _⟩
    · have H := Hq false
      have hvv := hv false
      clear Hq hv hq hq2
      rcases hq4 with rfl | rfl
      all_goals
        simp only [Int.reduceMod, decide_true, Bool.not_true, Int.reduceLE, if_true, if_false]
        generalize qkV sn false = V at *
        have kV : IntKind.i64.wrap (-V) = -V := IntWalk.i64_in _ (by omega)
        clear hvv
        rcases hst with ⟨rfl, h1⟩ | ⟨h1, h2⟩
        all_goals
          go_enter Tryz.func293, Tryz.ntmps293
          go_wp2_with (go_at_call 334; refine (H.out _).mono ?_; rintro e w' ⟨rfl, d1, rfl⟩)
          go_ret
          exact ⟨rfl, lay_ex _ _⟩
  · rw [if_neg hb]
    have Hq : ∀ c, Hid (∀ W, Calls Tryz.prog 334 #[.int .i64 r, .bool c] W fun e w' => e = .returned (.int .i64 (qkV r.toNat c)) ∧ ∃ d, w' = bw W d) := fun c => Lib.hid fun W => by
      have := r6_quick r.toNat c W (by omega)
      rwa [show ((r.toNat : Nat) : Int) = r by omega] at this
    have hv : ∀ c, -4611686018427388904 ≤ qkV r.toNat c ∧ qkV r.toNat c ≤ 4611686018427388904 := fun c => qkV_bd (by omega)
    have g := decide_eq_false hb
    generalize r.toNat = sn at *
    clear hm2 hc hqr hr2
    have hq4 : (q = 0 ∨ q = 2) ∨ (q = 1 ∨ q = 3) := by omega
    rcases hq4 with hq4 | hq4
    · have H := Hq false
      have hvv := hv false
      clear Hq hv hq hq2
      rcases hq4 with rfl | rfl
      all_goals
        simp only [Int.reduceMod, Int.reduceEq, decide_false, Int.reduceLE, if_true, if_false]
        generalize qkV sn false = V at *
        have kV : IntKind.i64.wrap (-V) = -V := IntWalk.i64_in _ (by omega)
        clear hvv
        rcases hst with ⟨rfl, h1⟩ | ⟨h1, h2⟩
        all_goals
          go_enter Tryz.func293, Tryz.ntmps293
          go_wp2_with (go_at_call 334; refine (H.out _).mono ?_; rintro e w' ⟨rfl, d1, rfl⟩)
          go_ret
          exact ⟨rfl, lay_ex _ _⟩
    · have H := Hq true
      have hvv := hv true
      clear Hq hv hq hq2
      rcases hq4 with rfl | rfl
      all_goals
        simp only [Int.reduceMod, decide_true, Int.reduceLE, if_true, if_false]
        generalize qkV sn true = V at *
        have kV : IntKind.i64.wrap (-V) = -V := IntWalk.i64_in _ (by omega)
        clear hvv
        rcases hst with ⟨rfl, h1⟩ | ⟨h1, h2⟩
        all_goals
          go_enter Tryz.func293, Tryz.ntmps293
          go_wp2_with (go_at_call 334; refine (H.out _).mono ?_; rintro e w' ⟨rfl, d1, rfl⟩)
          go_ret
          exact ⟨rfl, lay_ex _ _⟩
theorem r6_Floor (n : Int) (w : World) :
    Calls Tryz.prog 248 #[.int .i64 n] w fun e w' => e = .returned (.tuple #[.int .i64 (bLo n), .bool (exaQ (foldT n))]) ∧ ∃ d, w' = bw w d := by
  have HE := Lib.hid (fun W => r6_Exact n W)
  have HQ := Lib.hid (fun W => r6_Quick n W)
  have hcl := @qck_cell n
  refine lay_start ?_
  generalize exaQ (foldT n) = x at *
  generalize qckV n = v at *
  have hbl := bLo_in n
  generalize bLo n = b at *
  cases x
  · obtain ⟨h1, h2⟩ := hcl rfl
    rw [if_neg (by decide)] at HE
    obtain ⟨v1, hv1⟩ : ∃ v1, v - 256 = v1 := ⟨_, rfl⟩
    obtain ⟨v2, hv2⟩ : ∃ v2, v + 256 = v2 := ⟨_, rfl⟩
    have k1 : IntKind.i64.wrap v1 = v1 := IntWalk.i64_in _ (by omega)
    have k2 : IntKind.i64.wrap v2 = v2 := IntWalk.i64_in _ (by omega)
    have s1 : v1 / 4294967296 = b := by omega
    have s2 : v2 / 4294967296 = b := by omega
    have s3 : v / 4294967296 = b := by omega
    clear h1 h2 hcl
    go_enter Tryz.func248, Tryz.ntmps248
    go_wp2_with (first | (go_at_call 292; refine (HE.out _).mono ?_; rintro e w' ⟨rfl, d1, rfl⟩) | (go_at_call 293; refine (HQ.out _).mono ?_; rintro e w' ⟨rfl, d2, rfl⟩))
    go_ret2
    exact ⟨rfl, lay_ex _ _⟩
  · rw [if_pos rfl] at HE
    clear hcl
    go_enter Tryz.func248, Tryz.ntmps248
    go_wp2_with (first | (go_at_call 292; refine (HE.out _).mono ?_; rintro e w' ⟨rfl, d1, rfl⟩))
    go_ret2
    exact ⟨rfl, lay_ex _ _⟩
theorem r6_ends (n : Int) (w : World) :
    Calls Tryz.prog 197 #[.int .i64 n] w fun e w' => e = .returned (.tuple #[.int .i64 (bLo n), .int .i64 (bHi n)]) ∧ ∃ d, w' = bw w d := by
  have HF := Lib.hid (fun W => r6_Floor n W)
  have h1 := @bb_no n
  have h2 := @bb_ex n
  have hbl := bLo_in n
  refine lay_start ?_
  generalize exaQ (foldT n) = x at *
  generalize bLo n = b at *
  generalize bHi n = c at *
  cases x
  · have e := (h1 rfl).1
    subst e
    clear h1 h2
    have k1 : IntKind.i64.wrap (b + 1) = b + 1 := IntWalk.i64_in _ (by omega)
    go_enter Tryz.func197, Tryz.ntmps197
    go_wp2_with (go_at_call 248; refine (HF.out _).mono ?_; rintro e w' ⟨rfl, d1, rfl⟩)
    go_ret2
    exact ⟨rfl, lay_ex _ _⟩
  · have e := (h2 rfl).1
    subst e
    clear h1 h2
    go_enter Tryz.func197, Tryz.ntmps197
    go_wp2_with (go_at_call 248; refine (HF.out _).mono ?_; rintro e w' ⟨rfl, d1, rfl⟩)
    go_ret2
    exact ⟨rfl, lay_ex _ _⟩
end Go.Proofs.YtnnmfdeeicpdlaaGreat
/- The reference's sines and cosines over arcs: has, sine, Sin, Cos. -/
namespace Go.Proofs.YtnnmfdeeicpdlaaGreat
set_option maxHeartbeats 1000000
set_option maxRecDepth 100000
open Go.RowKit

theorem met_turn (lo hi : Int) : metB lo hi (-5400000) = metB lo hi 16200000 := by
  unfold metB
  rw [show ((-5400000 : Int) - lo) % 21600000 = (16200000 - lo) % 21600000 by omega]
theorem r6_has (lo hi n : Int) (h1 : -2199023255552 ≤ lo) (h2 : lo ≤ hi) (h3 : hi ≤ 2199023255552) (h4 : -21600000 ≤ n) (h5 : n ≤ 21600000) (w : World) :
    Calls Tryz.prog 198 #[(.agg #[.int .i64 (lo), .int .i64 (hi)]), .int .i64 n] w fun e w' => e = .returned (.bool (metB lo hi n)) ∧ ∃ d, w' = bw w d := by
  refine lay_start ?_
  obtain ⟨D, hD⟩ : ∃ D : Int, n - lo = D := ⟨_, rfl⟩
  have kD : IntKind.i64.wrap D = D := IntWalk.i64_in _ (by omega)
  have hc := tmod_turn D
  obtain ⟨t, ht⟩ : ∃ t, D.tmod 21600000 = t := ⟨_, rfl⟩
  rw [ht] at hc
  obtain ⟨q, hq⟩ : ∃ q, D % 21600000 = q := ⟨_, rfl⟩
  rw [hq] at hc
  have hq2 : 0 ≤ q ∧ q < 21600000 := by omega
  have kt : IntKind.i64.wrap t = t := IntWalk.i64_in _ (by omega)
  have kq : IntKind.i64.wrap q = q := IntWalk.i64_in _ (by omega)
  obtain ⟨E, hE⟩ : ∃ E : Int, lo + q = E := ⟨_, rfl⟩
  have kE : IntKind.i64.wrap E = E := IntWalk.i64_in _ (by omega)
  rw [show metB lo hi n = decide (E ≤ hi) by unfold metB; rw [hD, hq]; exact decide_eq_decide.2 (by omega)]
  have hst : t = q ∧ ¬ t < 0 ∨ t < 0 ∧ t + 21600000 = q := by omega
  clear hc hq2 h1 h2 h3 h4 h5 hq
  rcases hst with ⟨rfl, hs⟩ | ⟨hs, hs2⟩
  all_goals
    go_enter Tryz.func198, Tryz.ntmps198
    go_wp2_with fail
    go_ret
    exact ⟨rfl, lay_ex _ _⟩
theorem r6_sine (lo hi : Int) (h1 : -2199023255552 ≤ lo) (h2 : lo ≤ hi) (h3 : hi ≤ 2199023255552) (w : World) :
    Calls Tryz.prog 122 #[(.agg #[.int .i64 (lo), .int .i64 (hi)])] w fun e w' => e = .returned (.agg #[.int .i64 (encL lo hi), .int .i64 (encH lo hi)]) ∧ ∃ d, w' = bw w d := by
  refine lay_start ?_
  have HB1 := Lib.hid (fun W => r6_ends lo W)
  have HB2 := Lib.hid (fun W => r6_ends hi W)
  have HM1 := Lib.hid (fun W => r6_has lo hi 5400000 h1 h2 h3 (by decide) (by decide) W)
  have HM2 := Lib.hid (fun W => r6_has lo hi (-5400000) h1 h2 h3 (by decide) (by decide) W)
  rw [met_turn] at HM2
  rw [encL_at, encH_at]
  generalize bLo lo = p at *
  generalize bLo hi = q at *
  generalize bHi lo = r at *
  generalize bHi hi = s at *
  clear h1 h2 h3
  cases hm1 : metB lo hi 5400000 <;> cases hm2 : metB lo hi 16200000
  all_goals
    rw [hm1] at HM1
    rw [hm2] at HM2
    clear hm1 hm2
    simp only [Bool.false_eq_true, if_true, if_false]
    go_enter Tryz.func122, Tryz.ntmps122
    go_wp2_with (first | (go_at_call 197; first | (with_reducible refine (HB1.out _).mono ?_; rintro e w' ⟨rfl, d1, rfl⟩) | (with_reducible refine (HB2.out _).mono ?_; rintro e w' ⟨rfl, d2, rfl⟩)) | (go_at_call 198; first | (with_reducible refine (HM1.out _).mono ?_; rintro e w' ⟨rfl, d3, rfl⟩) | (with_reducible refine (HM2.out _).mono ?_; rintro e w' ⟨rfl, d4, rfl⟩)))
  · exact bodyPost_ret (v := (.agg #[.int .i64 (mn p q), .int .i64 (mx r s)])) (by simp [results, Tryz.results122, go_sem]) rfl ⟨rfl, lay_ex _ _⟩
  · exact bodyPost_ret (v := (.agg #[.int .i64 (-1073741824), .int .i64 (mx r s)])) (by simp [results, Tryz.results122, go_sem]) rfl ⟨rfl, lay_ex _ _⟩
  · exact bodyPost_ret (v := (.agg #[.int .i64 (mn p q), .int .i64 (1073741824)])) (by simp [results, Tryz.results122, go_sem]) rfl ⟨rfl, lay_ex _ _⟩
  · exact bodyPost_ret (v := (.agg #[.int .i64 (-1073741824), .int .i64 (1073741824)])) (by simp [results, Tryz.results122, go_sem]) rfl ⟨rfl, lay_ex _ _⟩
theorem r6_Sin (lo hi : Int) (hv : validB lo hi = true) (w : World) :
    Calls Tryz.prog 54 #[(.agg #[.int .i64 (lo), .int .i64 (hi)])] w fun e w' => e = .returned (.agg #[.int .i64 (encL lo hi), .int .i64 (encH lo hi)]) ∧ ∃ d, w' = bw w d := by
  refine lay_start ?_
  have h := validB_iff.1 hv
  have HE := Lib.hid (fun W => r6_sine lo hi (by omega) h.1 (by omega) W)
  clear h hv
  generalize encL lo hi = p at *
  generalize encH lo hi = q at *
  go_enter Tryz.func54, Tryz.ntmps54
  go_wp2_with (first | (go_at_call 122; refine (HE.out _).mono ?_; rintro e w' ⟨rfl, d, rfl⟩))
  exact bodyPost_ret (v := (.agg #[.int .i64 (p), .int .i64 (q)])) (by simp [results, Tryz.results54, go_sem]) rfl ⟨rfl, lay_ex _ _⟩
theorem r6_Cos (lo hi : Int) (hv : validB lo hi = true) (w : World) :
    Calls Tryz.prog 51 #[(.agg #[.int .i64 (lo), .int .i64 (hi)])] w fun e w' => e = .returned (.agg #[.int .i64 (encL (lo + 5400000) (hi + 5400000)), .int .i64 (encH (lo + 5400000) (hi + 5400000))]) ∧ ∃ d, w' = bw w d := by
  refine lay_start ?_
  have h := validB_iff.1 hv
  have HE := Lib.hid (fun W => r6_sine (lo + 5400000) (hi + 5400000) (by omega) (by omega) (by omega) W)
  have k1 : IntKind.i64.wrap (lo + 5400000) = lo + 5400000 := IntWalk.i64_in _ (by omega)
  have k2 : IntKind.i64.wrap (hi + 5400000) = hi + 5400000 := IntWalk.i64_in _ (by omega)
  clear h hv
  generalize encL (lo + 5400000) (hi + 5400000) = p at *
  generalize encH (lo + 5400000) (hi + 5400000) = q at *
  go_enter Tryz.func51, Tryz.ntmps51
  go_wp2_with (first | (go_at_call 122; refine (HE.out _).mono ?_; rintro e w' ⟨rfl, d, rfl⟩))
  exact bodyPost_ret (v := (.agg #[.int .i64 (p), .int .i64 (q)])) (by simp [results, Tryz.results51, go_sem]) rfl ⟨rfl, lay_ex _ _⟩
end Go.Proofs.YtnnmfdeeicpdlaaGreat
/- Haversines over arcs: the reference's. -/
namespace Go.Proofs.YtnnmfdeeicpdlaaGreat
open Go.RowKit

end Go.Proofs.YtnnmfdeeicpdlaaGreat
