/- Contracts and plain laws, several texts in one: Div2 -/
import Derived.Test.YtkhhdpndcidmgaaGreatProg
import Derived.WalkKit
import Derived.WalkSpells
import Derived.WalkLawsBesides
import Derived.Lib.Hide
import Derived.BigQuiet
import Derived.Lib.ItoaNum
import Derived.Test.YtkhhdpndcidmgaaGreatTAE
import Derived.Test.YtkhhdpndcidmgaaGreatTAF
import Derived.Test.YtkhhdpndcidmgaaGreatTAI
/- The walk of math/bits.Div64. -/
namespace Go.Proofs.YtkhhdpndcidmgaaGreat
open Go.RowKit

theorem div_nums {hi lo y s : Nat} (hhi : hi < y) (hlo : lo < 18446744073709551616) (hs : s ≤ 63) :
    lo / 2 ^ (64 - s) < 2 ^ s ∧ hi * 2 ^ s + lo / 2 ^ (64 - s) < y * 2 ^ s ∧ (hi * 18446744073709551616 + lo) * 2 ^ s = (hi * 2 ^ s + lo / 2 ^ (64 - s)) * 18446744073709551616 + lo * 2 ^ s % 18446744073709551616 := by
  have hpr : 2 ^ s * 2 ^ (64 - s) = 18446744073709551616 := by rw [← Nat.pow_add]; rw [show s + (64 - s) = 64 by omega]
  have hp : 0 < 2 ^ s := Nat.pow_pos (by decide)
  have hr : 0 < 2 ^ (64 - s) := Nat.pow_pos (by decide)
  generalize 2 ^ s = p at *
  generalize 2 ^ (64 - s) = r at *
  have h1 : lo / r < p := Nat.div_lt_of_lt_mul (by rw [Nat.mul_comm, hpr]; exact hlo)
  refine ⟨h1, ?_, ?_⟩
  · have : (hi + 1) * p ≤ y * p := Nat.mul_le_mul_right _ hhi
    rw [Nat.succ_mul] at this
    generalize y * p = A at *
    generalize hi * p = C at *
    omega
  · have h2 : lo * p = lo / r * 18446744073709551616 + lo % r * p := by
      rw [← hpr, Nat.mul_comm p r, ← Nat.mul_assoc, ← Nat.add_mul, Nat.mul_comm (lo / r) r, Nat.div_add_mod]
    have h3 : lo % r * p < 18446744073709551616 := by
      rw [← hpr, Nat.mul_comm p r]; exact Nat.mul_lt_mul_of_pos_right (Nat.mod_lt _ hr) hp
    rw [Nat.add_mul, Nat.add_mul, h2, Nat.mul_right_comm hi 18446744073709551616 p]
    generalize lo % r * p = A at *
    generalize hi * p = C at *
    generalize lo / r = D at *
    omega
theorem lz_of (y : Nat) (h0 : y ≠ 0) (h1 : y < 18446744073709551616) : ∃ s : Nat, s ≤ 63 ∧ (64 - (Lib.bitLen y : Int)) = (s : Int) ∧ y * 2 ^ s < 18446744073709551616 ∧ 9223372036854775808 ≤ y * 2 ^ s := by
  obtain ⟨b1, b2, b3⟩ := Lib.bitLenAux_bounds 64 y (by simpa using h1) h0
  have e : Lib.bitLenAux 64 y = Lib.bitLen y := rfl
  rw [e] at b1 b2 b3
  have h64 : Lib.bitLen y ≤ 64 := Lib.bitLen_le y 64 (by omega) (by simpa using h1)
  generalize Lib.bitLen y = k at *
  refine ⟨64 - k, by omega, by omega, ?_, ?_⟩
  · have : y * 2 ^ (64 - k) < 2 ^ k * 2 ^ (64 - k) := Nat.mul_lt_mul_of_pos_right b3 (Nat.pow_pos (by decide))
    rw [← Nat.pow_add, show k + (64 - k) = 64 by omega] at this
    exact this
  · have : 2 ^ (k - 1) * 2 ^ (64 - k) ≤ y * 2 ^ (64 - k) := Nat.mul_le_mul_right _ b2
    rw [← Nat.pow_add, show k - 1 + (64 - k) = 63 by omega] at this
    exact this
theorem pow_cast (y s : Nat) : (y : Int) * 2 ^ s = ((y * 2 ^ s : Nat) : Int) := by rw [Int.natCast_mul, Int.natCast_pow]; rfl
theorem or_add {a b s : Nat} (h : b < 2 ^ s) : (a * 2 ^ s ||| b) = a * 2 ^ s + b := by rw [Nat.mul_comm a]; exact (Nat.two_pow_add_eq_or_of_lt h a).symm
theorem tdiv_cast (a b : Nat) : ((a : Int).tdiv (b : Int)) = ((a / b : Nat) : Int) := by rw [Int.tdiv_eq_ediv_of_nonneg (by omega)]; exact (Int.natCast_ediv a b).symm
theorem wrap_tdiv (a b : Nat) (ha : a < 18446744073709551616) : IntKind.u64.wrap ((a : Int).tdiv (b : Int)) = ((a / b : Nat) : Int) := by
  rw [tdiv_cast]; exact Mul64.wrapN _ (Nat.lt_of_le_of_lt (Nat.div_le_self _ _) ha)
theorem wrap_rest (a b : Nat) (ha : a < 18446744073709551616) : IntKind.u64.wrap ((a : Int) - IntKind.u64.wrap (((a / b : Nat) : Int) * (b : Int))) = ((a % b : Nat) : Int) := by
  have h := Nat.div_add_mod a b
  rw [Nat.mul_comm] at h
  rw [Mul64.mulN, Mul64.wrapN _ (by omega), IntKind.wrap_u64]
  generalize a / b * b = A at *
  generalize a % b = C at *
  omega
theorem wrap_digit (U c Y q : Nat) (hY : 0 < Y) (hYb : Y < 18446744073709551616) (hq : q = (U * 4294967296 + c) / Y) :
    IntKind.u64.wrap (IntKind.u64.wrap (IntKind.u64.wrap ((U : Int) * 4294967296) + (c : Int)) - IntKind.u64.wrap ((q : Int) * (Y : Int))) = (((U * 4294967296 + c) % Y : Nat) : Int) := by
  have h := Nat.div_add_mod (U * 4294967296 + c) Y
  have hl := Nat.mod_lt (U * 4294967296 + c) hY
  rw [← hq, Nat.mul_comm] at h
  rw [Mul64.mulN, IntKind.wrap_u64, IntKind.wrap_u64, IntKind.wrap_u64, IntKind.wrap_u64]
  generalize q * Y = A at *
  generalize (U * 4294967296 + c) % Y = C at *
  omega
theorem wrap_two (q1 q0 T : Nat) (h : q1 * 4294967296 + q0 = T) (hT : T < 18446744073709551616) :
    IntKind.u64.wrap (IntKind.u64.wrap ((q1 : Int) * 4294967296) + (q0 : Int)) = (T : Int) := by
  rw [IntKind.wrap_u64, IntKind.wrap_u64]; omega
theorem join_gen (B U L : Nat) : (U * B + L / B) * B + L % B = U * (B * B) + L := by
  have h := Nat.div_add_mod L B
  rw [Nat.add_mul, Nat.mul_assoc, Nat.mul_comm (L / B), Nat.add_assoc, h]
theorem join_words (U L : Nat) : (U * 4294967296 + L / 4294967296) * 4294967296 + L % 4294967296 = U * 18446744073709551616 + L := by
  have h := join_gen 4294967296 U L
  have e : (4294967296 * 4294967296 : Nat) = 18446744073709551616 := by decide
  rw [e] at h
  exact h
set_option maxHeartbeats 4000000 in
theorem div64' (hi lo y qf rf : Nat) (hqf : qf = (hi * 18446744073709551616 + lo) / y) (hrf : rf = (hi * 18446744073709551616 + lo) % y) (hhi : hi < y) (hlo : lo < 18446744073709551616) (hy : y < 18446744073709551616) (w : World) :
    Calls Tryz.prog 170 #[.int .u64 (hi : Int), .int .u64 (lo : Int), .int .u64 (y : Int)] w fun e w' =>
      e = .returned (.tuple #[.int .u64 (qf : Int), .int .u64 (rf : Int)]) ∧ ∃ d, w' = bw w d := by
  refine lay_start ?_
  have hyz : (y : Int) ≠ 0 := by omega
  have hyn : ¬ y = 0 := by omega
  have hlt : ¬ (y : Int) ≤ (hi : Int) := by omega
  have hyb : ((y : Int) == 0) = false := by simp; omega
  by_cases h0 : hi = 0
  · subst h0
    have hq : IntKind.u64.wrap ((lo : Int).tdiv (y : Int)) = ((lo / y : Nat) : Int) := wrap_tdiv lo y hlo
    have hr : IntKind.u64.wrap ((lo : Int) % (y : Int)) = ((lo % y : Nat) : Int) := by
      rw [← Int.natCast_emod]; exact Mul64.wrapN _ (Nat.lt_of_le_of_lt (Nat.mod_le _ _) hlo)
    go_enter Tryz.func170, Tryz.ntmps170
    go_wp2_with fail
    refine region_bw (by kernel_rfl) (by kernel_rfl) ?_
    repeat (go_big_quiet_step ((first | fail)))
    refine wpQuiet_nil ?_
    rintro w' ⟨d, rfl⟩
    rw [lay_bw]
    go_wp2_with fail
    have hq' : IntKind.u64.wrap ((lo : Int) / (y : Int)) = ((lo / y : Nat) : Int) := by
      rw [← Int.natCast_ediv]; exact Mul64.wrapN _ (Nat.lt_of_le_of_lt (Nat.div_le_self _ _) hlo)
    go_ret2
    refine ⟨?_, lay_ex w _⟩
    rw [hq', ← Int.natCast_emod, hqf, hrf, Nat.zero_mul, Nat.zero_add]
    rfl
  · have h0b : ((hi : Int) == 0) = false := by simp; omega
    obtain ⟨s, hs, es, hup, hdn⟩ := lz_of y (by omega) hy
    obtain ⟨n1, n2, n3⟩ := div_nums hhi hlo hs
    have c := Tryz.bits_LeadingZeros64 (y : Int) (lay w []) (by omega) (by omega)
    rw [show ((y : Int).toNat) = y by omega, es] at c
    obtain ⟨hsh1, hsh2⟩ := shifted (hi * 18446744073709551616 + lo) y s
    have hTb : (hi * 18446744073709551616 + lo) / y < 18446744073709551616 := Nat.div_lt_of_lt_mul (by
      have : (hi + 1) * 18446744073709551616 ≤ y * 18446744073709551616 := Nat.mul_le_mul_right _ hhi
      omega)
    have eY : IntKind.u64.wrap ((y : Int) * 2 ^ s) = ((y * 2 ^ s : Nat) : Int) := by rw [pow_cast]; exact Mul64.wrapN _ hup
    have eL : IntKind.u64.wrap ((lo : Int) * 2 ^ s) = ((lo * 2 ^ s % 18446744073709551616 : Nat) : Int) := by rw [pow_cast]; exact Mul64.wrapM _
    obtain ⟨H0, eH0⟩ : ∃ H0, H0 = hi * 2 ^ s := ⟨_, rfl⟩
    obtain ⟨D0, eD0⟩ : ∃ D0, D0 = lo / 2 ^ (64 - s) := ⟨_, rfl⟩
    rw [← eH0, ← eD0] at n2 n3
    rw [← eD0] at n1
    have hhs : H0 < 18446744073709551616 := Nat.lt_of_le_of_lt (Nat.le_add_right _ _) (Nat.lt_trans n2 hup)
    have eH : IntKind.u64.wrap ((hi : Int) * 2 ^ s) = (H0 : Int) := by rw [pow_cast, ← eH0]; exact Mul64.wrapN _ hhs
    have eD : (lo : Int) / 2 ^ (64 - s) = (D0 : Int) := by rw [eD0, Int.natCast_ediv, Int.natCast_pow]; rfl
    have eO : bits .or .u64 (H0 : Int) (D0 : Int) = ((H0 + D0 : Nat) : Int) := by
      rw [bits_or_u64_nat _ _ hhs (Nat.lt_of_le_of_lt (Nat.le_add_left _ _) (Nat.lt_trans n2 hup)), eH0, or_add n1]
    have ep : ((M : Nat) → ((M : Nat) : Int) / 2 ^ s = ((M / 2 ^ s : Nat) : Int)) := fun M => by rw [Int.natCast_ediv, Int.natCast_pow]; rfl
    rw [n3] at hsh1 hsh2
    generalize hGL : lo * 2 ^ s % 18446744073709551616 = L at *
    generalize hGU : H0 + D0 = U at *
    generalize hGY : y * 2 ^ s = Y at *
    have hL : L < 18446744073709551616 := by rw [← hGL]; exact Nat.mod_lt _ (by decide)
    have m1 : bits .and .u64 (Y : Int) 4294967295 = ((Y % 4294967296 : Nat) : Int) := Mul64.maskN Y hup
    have m2 : bits .and .u64 (L : Int) 4294967295 = ((L % 4294967296 : Nat) : Int) := Mul64.maskN L hL
    have d1 : (Y : Int) / 4294967296 = ((Y / 4294967296 : Nat) : Int) := Mul64.divN _
    have d2 : (L : Int) / 4294967296 = ((L / 4294967296 : Nat) : Int) := Mul64.divN _
    obtain ⟨y1, hy1⟩ : ∃ y1, y1 = Y / 4294967296 := ⟨_, rfl⟩
    obtain ⟨y0, hy0e⟩ : ∃ y0, y0 = Y % 4294967296 := ⟨_, rfl⟩
    obtain ⟨c1, hc1e⟩ : ∃ c1, c1 = L / 4294967296 := ⟨_, rfl⟩
    obtain ⟨c0, hc0e⟩ : ∃ c0, c0 = L % 4294967296 := ⟨_, rfl⟩
    rw [← hy1] at d1
    rw [← hy0e] at m1
    rw [← hc1e] at d2
    rw [← hc0e] at m2
    have hyy : y1 * 4294967296 + y0 = Y := by omega
    have hy0 : y0 < 4294967296 := by omega
    have hy1b : y1 < 4294967296 := by omega
    have hc1 : c1 < 4294967296 := by omega
    have hc0 : c0 < 4294967296 := by omega
    have hy1u : 4294967296 ≤ 2 * y1 := by omega
    have hU : U < y1 * 4294967296 + y0 := by omega
    have hUb : U < 18446744073709551616 := by omega
    obtain ⟨Q1, eQ1⟩ : ∃ Q1, Q1 = U / y1 := ⟨_, rfl⟩
    obtain ⟨T1, eT1⟩ : ∃ T1, T1 = U % y1 := ⟨_, rfl⟩
    obtain ⟨D1, hr1⟩ := di_init hy1u hy0 hU hc1
    have g1 : IntKind.u64.wrap ((U : Int) / (y1 : Int)) = (Q1 : Int) := by rw [eQ1, ← wrap_tdiv U y1 hUb, tdiv_cast, Int.natCast_ediv]
    have g2 := wrap_rest U y1 hUb
    rw [← eQ1, ← eT1] at g2 D1
    rw [← eT1] at hr1
    obtain ⟨R1, hR1e⟩ : ∃ R1, R1 = (U * 4294967296 + c1) % Y := ⟨_, rfl⟩
    have hR1 : R1 < y1 * 4294967296 + y0 := by rw [hyy, hR1e]; exact Nat.mod_lt _ (by omega)
    have hR1b : R1 < 18446744073709551616 := by omega
    obtain ⟨Q2, eQ2⟩ : ∃ Q2, Q2 = R1 / y1 := ⟨_, rfl⟩
    obtain ⟨T2, eT2⟩ : ∃ T2, T2 = R1 % y1 := ⟨_, rfl⟩
    obtain ⟨D2, hr2⟩ := di_init hy1u hy0 hR1 hc0
    have g3 : IntKind.u64.wrap ((R1 : Int) / (y1 : Int)) = (Q2 : Int) := by rw [eQ2, ← wrap_tdiv R1 y1 hR1b, tdiv_cast, Int.natCast_ediv]
    have g4 := wrap_rest R1 y1 hR1b
    rw [← eQ2, ← eT2] at g4 D2
    rw [← eT2] at hr2
    have hT : ∀ q1 : Nat, q1 = (U * 4294967296 + c1) / Y → IntKind.u64.wrap (IntKind.u64.wrap (IntKind.u64.wrap ((U : Int) * 4294967296) + (c1 : Int)) - IntKind.u64.wrap ((q1 : Int) * (Y : Int))) = (R1 : Int) := fun q1 h => by
      rw [hR1e]; exact wrap_digit U c1 Y q1 (by omega) (by omega) h
    obtain ⟨t1, t2⟩ := two_digits (B := 4294967296) (U := U) (c1 := c1) (c0 := c0) (y := Y) (by omega)
    have hML : (U * 4294967296 + c1) * 4294967296 + c0 = U * 18446744073709551616 + L := by rw [hc1e, hc0e]; exact join_words U L
    rw [hML, hsh1] at t1
    rw [hML] at t2
    rw [← hR1e] at t1 t2
    rw [← hqf] at t1
    obtain ⟨R0, hR0⟩ : ∃ R0, R0 = (R1 * 4294967296 + c0) % Y := ⟨_, rfl⟩
    rw [← hqf] at hTb
    rw [t2] at hsh2
    have hE1 : ∀ q1 : Nat, q1 = (U * 4294967296 + c1) / Y → ∀ q0 : Nat, q0 = (R1 * 4294967296 + c0) / Y → IntKind.u64.wrap (IntKind.u64.wrap ((q1 : Int) * 4294967296) + (q0 : Int)) = (qf : Int) ∧ IntKind.u64.wrap ((q1 : Int) * 4294967296 + (q0 : Int)) = (qf : Int) := fun q1 h1 q0 h0 => by
      have e : q1 * 4294967296 + q0 = qf := by rw [t1, h1, h0]
      refine ⟨wrap_two q1 q0 _ e hTb, ?_⟩
      rw [IntKind.wrap_u64]; omega
    have hE2 : ∀ q0 : Nat, q0 = (R1 * 4294967296 + c0) / Y → IntKind.u64.wrap (IntKind.u64.wrap (IntKind.u64.wrap ((R1 : Int) * 4294967296) + (c0 : Int)) - IntKind.u64.wrap ((q0 : Int) * (Y : Int))) = (R0 : Int) := fun q0 h => by
      rw [hR0]; exact wrap_digit R1 c0 Y q0 (by omega) (by omega) h
    have hE3 : (R0 : Int) / 2 ^ s = (rf : Int) := by rw [ep, hR0, hsh2, hrf]
    have hy1z : (y1 : Int) ≠ 0 := by omega
    have hy1n : ¬ y1 = 0 := by omega
    clear t1 t2 hML hsh1 hsh2 hGL hGU hGY n1 n2 n3 ep es hR1e hTb eQ1 eT1 eQ2 eT2 hR0 eH0 eD0 hqf hrf hL hhs hUb hR1b hy1u hdn
    have HX := Lib.hid (And.intro hyy (And.intro hy0 (And.intro hy1b (And.intro hc1 (And.intro hc0 (And.intro hU (And.intro hr1 (And.intro hR1 (And.intro hr2 (And.intro D1 (And.intro D2 hup)))))))))))
    have HE := Lib.hid (And.intro hT (And.intro hE1 hE2))
    clear hyy hy0 hy1b hc1 hc0 hU hr1 hR1 hr2 D1 D2 hT hE1 hE2 hup hy1 hy0e hc1e hc0e hhi hlo hy h0
    go_enter Tryz.func170, Tryz.ntmps170
    go_wp2_with (first | (go_at_call 191; refine c.mono ?_; rintro e w' ⟨rfl, hw⟩; rw [hw]))
    go_loopw [15, 16] (fun v15 v16 wr => ∃ q r : Nat, v15 = .int .u64 (q : Int) ∧ v16 = .int .u64 (r : Int) ∧ wr = lay w [] ∧ DI 4294967296 U y1 y0 c1 q r ∧ r < 4294967296) (fun v15 _ _ => (intOf v15).toNat)
    case atStart =>
      obtain ⟨hyy, hy0, hy1b, hc1, hc0, hU, hr1, hR1, hr2, D1, D2, hup⟩ := HX.out
      exact ⟨Q1, T1, rfl, rfl, rfl, D1, by omega⟩
    case round =>
      obtain ⟨q, r, rfl, rfl, hw, D, hr⟩ := hrel
      rw [hw]
      clear hw
      obtain ⟨hyy, hy0, hy1b, hc1, hc0, hU, hr1, hR1, hr2, D1, D2, hup⟩ := HX.out
      have hqy := Nat.mul_le_mul D.qb (Nat.le_sub_one_of_lt hy0)
      have hqb := D.qb
      obtain ⟨P, eP⟩ : ∃ P, P = q * y0 := ⟨_, rfl⟩
      obtain ⟨N0, eN0⟩ : ∃ N0, N0 = 4294967296 * r := ⟨_, rfl⟩
      obtain ⟨N1, eN1⟩ : ∃ N1, N1 = N0 + c1 := ⟨_, rfl⟩
      obtain ⟨r2, er2⟩ : ∃ r2, r2 = r + y1 := ⟨_, rfl⟩
      obtain ⟨p, ep⟩ : ∃ p, p = q - 1 := ⟨_, rfl⟩
      have f1 : IntKind.u64.wrap ((q : Int) * (y0 : Int)) = (P : Int) := by rw [Mul64.mulN, ← eP]; exact Mul64.wrapN _ (by omega)
      have f2 : IntKind.u64.wrap (4294967296 * (r : Int)) = (N0 : Int) := by rw [IntKind.wrap_u64]; omega
      have f3 : IntKind.u64.wrap ((N0 : Int) + (c1 : Int)) = (N1 : Int) := by rw [IntKind.wrap_u64]; omega
      have f5 : IntKind.u64.wrap ((r : Int) + (y1 : Int)) = (r2 : Int) := by rw [IntKind.wrap_u64]; omega
      by_cases hA : 4294967296 ≤ q
      · have hA' : (4294967296 : Int) ≤ (q : Int) := by omega
        obtain ⟨p0, D', pB⟩ := di_step D hU hc1 (Or.inl hA)
        rw [← ep, ← er2] at D'
        rw [← ep] at pB
        have f4 : IntKind.u64.wrap ((q : Int) - 1) = (p : Int) := by rw [IntKind.wrap_u64]; omega
        by_cases hE : 4294967296 ≤ r2
        · have hE' : (4294967296 : Int) ≤ (r2 : Int) := by omega
          obtain ⟨hq, -⟩ := di_done D' (di_break hy0 pB hE)
          clear D' pB hE p0
          rw [hyy] at hq
          have k1 := HE.out.1 _ hq.symm
          have K2 := Lib.hid (HE.out.2.1 _ hq.symm)
          clear hyy hy0 hy1b hc1 hc0 hU hr1 hR1 hr2 D1 D2 hup hqy hqb eP eN0 eN1 er2 ep hA D hr
          clear hq
          go_wp2_with fail
          go_loopw [18, 16] (fun v18 v16 wr => ∃ q r : Nat, v18 = .int .u64 (q : Int) ∧ v16 = .int .u64 (r : Int) ∧ wr = lay w [] ∧ DI 4294967296 R1 y1 y0 c0 q r ∧ r < 4294967296) (fun v18 _ _ => (intOf v18).toNat)
          case atStart =>
            obtain ⟨hyy, hy0, hy1b, hc1, hc0, hU, hr1, hR1, hr2, D1, D2, hup⟩ := HX.out
            exact ⟨Q2, T2, rfl, rfl, rfl, D2, by omega⟩
          case round =>
            obtain ⟨q, r, rfl, rfl, hw, D, hr⟩ := hrel
            rw [hw]
            clear hw
            obtain ⟨hyy, hy0, hy1b, hc1, hc0, hU, hr1, hR1, hr2, D1, D2, hup⟩ := HX.out
            have hqy := Nat.mul_le_mul D.qb (Nat.le_sub_one_of_lt hy0)
            have hqb := D.qb
            obtain ⟨P, eP⟩ : ∃ P, P = q * y0 := ⟨_, rfl⟩
            obtain ⟨N0, eN0⟩ : ∃ N0, N0 = 4294967296 * r := ⟨_, rfl⟩
            obtain ⟨N1, eN1⟩ : ∃ N1, N1 = N0 + c0 := ⟨_, rfl⟩
            obtain ⟨r2, er2⟩ : ∃ r2, r2 = r + y1 := ⟨_, rfl⟩
            obtain ⟨p, ep⟩ : ∃ p, p = q - 1 := ⟨_, rfl⟩
            have f1 : IntKind.u64.wrap ((q : Int) * (y0 : Int)) = (P : Int) := by rw [Mul64.mulN, ← eP]; exact Mul64.wrapN _ (by omega)
            have f2 : IntKind.u64.wrap (4294967296 * (r : Int)) = (N0 : Int) := by rw [IntKind.wrap_u64]; omega
            have f3 : IntKind.u64.wrap ((N0 : Int) + (c0 : Int)) = (N1 : Int) := by rw [IntKind.wrap_u64]; omega
            have f5 : IntKind.u64.wrap ((r : Int) + (y1 : Int)) = (r2 : Int) := by rw [IntKind.wrap_u64]; omega
            by_cases hA : 4294967296 ≤ q
            · have hA' : (4294967296 : Int) ≤ (q : Int) := by omega
              obtain ⟨p0, D', pB⟩ := di_step D hR1 hc0 (Or.inl hA)
              rw [← ep, ← er2] at D'
              rw [← ep] at pB
              have f4 : IntKind.u64.wrap ((q : Int) - 1) = (p : Int) := by rw [IntKind.wrap_u64]; omega
              by_cases hE : 4294967296 ≤ r2
              · have hE' : (4294967296 : Int) ≤ (r2 : Int) := by omega
                obtain ⟨hq, -⟩ := di_done D' (di_break hy0 pB hE)
                clear D' pB hE p0
                rw [hyy] at hq
                have k3 := HE.out.2.2 _ hq.symm
                obtain ⟨k4, k5⟩ := K2.out _ hq.symm
                clear hyy hy0 hy1b hc1 hc0 hU hr1 hR1 hr2 D1 D2 hup hqy hqb eP eN0 eN1 er2 ep hA D hr
                clear hq
                go_wp2_with fail
                go_ret2
                exact ⟨rfl, lay_ex w []⟩
              · have hE' : ¬ (4294967296 : Int) ≤ (r2 : Int) := by omega
                have hm : p < q := by omega
                have HK := Lib.hid (And.intro D' (And.intro hm (Nat.lt_of_not_le hE)))
                clear hyy hy0 hy1b hc1 hc0 hU hr1 hR1 hr2 D1 D2 hup hqy hqb eP eN0 eN1 er2 ep hA D hr
                clear D' pB hE hm p0
                go_wp2_with fail
                go_roundw
                case rel => exact ⟨p, r2, rfl, rfl, by first | trivial | rfl, HK.out.1, HK.out.2.2⟩
                case measure =>
                  have := HK.out.2.1
                  simp only [intOf]
                  omega
            · have hA' : ¬ (4294967296 : Int) ≤ (q : Int) := by omega
              by_cases hB : N1 < P
              · have hB' : (N1 : Int) < (P : Int) := Int.ofNat_lt.2 hB
                obtain ⟨p0, D', pB⟩ := di_step D hR1 hc0 (Or.inr (by rw [← eP]; omega))
                clear hB
                rw [← ep, ← er2] at D'
                rw [← ep] at pB
                have f4 : IntKind.u64.wrap ((q : Int) - 1) = (p : Int) := by rw [IntKind.wrap_u64]; omega
                by_cases hE : 4294967296 ≤ r2
                · have hE' : (4294967296 : Int) ≤ (r2 : Int) := by omega
                  obtain ⟨hq, -⟩ := di_done D' (di_break hy0 pB hE)
                  clear D' pB hE p0
                  rw [hyy] at hq
                  have k3 := HE.out.2.2 _ hq.symm
                  obtain ⟨k4, k5⟩ := K2.out _ hq.symm
                  clear hyy hy0 hy1b hc1 hc0 hU hr1 hR1 hr2 D1 D2 hup hqy hqb eP eN0 eN1 er2 ep hA D hr
                  clear hq
                  go_wp2_with fail
                  go_ret2
                  exact ⟨rfl, lay_ex w []⟩
                · have hE' : ¬ (4294967296 : Int) ≤ (r2 : Int) := by omega
                  have hm : p < q := by omega
                  have HK := Lib.hid (And.intro D' (And.intro hm (Nat.lt_of_not_le hE)))
                  clear hyy hy0 hy1b hc1 hc0 hU hr1 hR1 hr2 D1 D2 hup hqy hqb eP eN0 eN1 er2 ep hA D hr
                  clear D' pB hE hm p0
                  go_wp2_with fail
                  go_roundw
                  case rel => exact ⟨p, r2, rfl, rfl, by first | trivial | rfl, HK.out.1, HK.out.2.2⟩
                  case measure =>
                    have := HK.out.2.1
                    simp only [intOf]
                    omega
              · have hB' : ¬ (N1 : Int) < (P : Int) := fun h => hB (Int.ofNat_lt.1 h)
                obtain ⟨hq, -⟩ := di_done D (by rw [← eP]; omega)
                clear hB
                rw [hyy] at hq
                have k3 := HE.out.2.2 _ hq.symm
                obtain ⟨k4, k5⟩ := K2.out _ hq.symm
                clear hyy hy0 hy1b hc1 hc0 hU hr1 hR1 hr2 D1 D2 hup hqy hqb eP eN0 eN1 er2 ep hA D hr
                clear hq
                go_wp2_with fail
                go_ret2
                exact ⟨rfl, lay_ex w []⟩
        · have hE' : ¬ (4294967296 : Int) ≤ (r2 : Int) := by omega
          have hm : p < q := by omega
          have HK := Lib.hid (And.intro D' (And.intro hm (Nat.lt_of_not_le hE)))
          clear hyy hy0 hy1b hc1 hc0 hU hr1 hR1 hr2 D1 D2 hup hqy hqb eP eN0 eN1 er2 ep hA D hr
          clear D' pB hE hm p0
          go_wp2_with fail
          go_roundw
          case rel => exact ⟨p, r2, rfl, rfl, by first | trivial | rfl, HK.out.1, HK.out.2.2⟩
          case measure =>
            have := HK.out.2.1
            simp only [intOf]
            omega
      · have hA' : ¬ (4294967296 : Int) ≤ (q : Int) := by omega
        by_cases hB : N1 < P
        · have hB' : (N1 : Int) < (P : Int) := Int.ofNat_lt.2 hB
          obtain ⟨p0, D', pB⟩ := di_step D hU hc1 (Or.inr (by rw [← eP]; omega))
          clear hB
          rw [← ep, ← er2] at D'
          rw [← ep] at pB
          have f4 : IntKind.u64.wrap ((q : Int) - 1) = (p : Int) := by rw [IntKind.wrap_u64]; omega
          by_cases hE : 4294967296 ≤ r2
          · have hE' : (4294967296 : Int) ≤ (r2 : Int) := by omega
            obtain ⟨hq, -⟩ := di_done D' (di_break hy0 pB hE)
            clear D' pB hE p0
            rw [hyy] at hq
            have k1 := HE.out.1 _ hq.symm
            have K2 := Lib.hid (HE.out.2.1 _ hq.symm)
            clear hyy hy0 hy1b hc1 hc0 hU hr1 hR1 hr2 D1 D2 hup hqy hqb eP eN0 eN1 er2 ep hA D hr
            clear hq
            go_wp2_with fail
            go_loopw [18, 16] (fun v18 v16 wr => ∃ q r : Nat, v18 = .int .u64 (q : Int) ∧ v16 = .int .u64 (r : Int) ∧ wr = lay w [] ∧ DI 4294967296 R1 y1 y0 c0 q r ∧ r < 4294967296) (fun v18 _ _ => (intOf v18).toNat)
            case atStart =>
              obtain ⟨hyy, hy0, hy1b, hc1, hc0, hU, hr1, hR1, hr2, D1, D2, hup⟩ := HX.out
              exact ⟨Q2, T2, rfl, rfl, rfl, D2, by omega⟩
            case round =>
              obtain ⟨q, r, rfl, rfl, hw, D, hr⟩ := hrel
              rw [hw]
              clear hw
              obtain ⟨hyy, hy0, hy1b, hc1, hc0, hU, hr1, hR1, hr2, D1, D2, hup⟩ := HX.out
              have hqy := Nat.mul_le_mul D.qb (Nat.le_sub_one_of_lt hy0)
              have hqb := D.qb
              obtain ⟨P, eP⟩ : ∃ P, P = q * y0 := ⟨_, rfl⟩
              obtain ⟨N0, eN0⟩ : ∃ N0, N0 = 4294967296 * r := ⟨_, rfl⟩
              obtain ⟨N1, eN1⟩ : ∃ N1, N1 = N0 + c0 := ⟨_, rfl⟩
              obtain ⟨r2, er2⟩ : ∃ r2, r2 = r + y1 := ⟨_, rfl⟩
              obtain ⟨p, ep⟩ : ∃ p, p = q - 1 := ⟨_, rfl⟩
              have f1 : IntKind.u64.wrap ((q : Int) * (y0 : Int)) = (P : Int) := by rw [Mul64.mulN, ← eP]; exact Mul64.wrapN _ (by omega)
              have f2 : IntKind.u64.wrap (4294967296 * (r : Int)) = (N0 : Int) := by rw [IntKind.wrap_u64]; omega
              have f3 : IntKind.u64.wrap ((N0 : Int) + (c0 : Int)) = (N1 : Int) := by rw [IntKind.wrap_u64]; omega
              have f5 : IntKind.u64.wrap ((r : Int) + (y1 : Int)) = (r2 : Int) := by rw [IntKind.wrap_u64]; omega
              by_cases hA : 4294967296 ≤ q
              · have hA' : (4294967296 : Int) ≤ (q : Int) := by omega
                obtain ⟨p0, D', pB⟩ := di_step D hR1 hc0 (Or.inl hA)
                rw [← ep, ← er2] at D'
                rw [← ep] at pB
                have f4 : IntKind.u64.wrap ((q : Int) - 1) = (p : Int) := by rw [IntKind.wrap_u64]; omega
                by_cases hE : 4294967296 ≤ r2
                · have hE' : (4294967296 : Int) ≤ (r2 : Int) := by omega
                  obtain ⟨hq, -⟩ := di_done D' (di_break hy0 pB hE)
                  clear D' pB hE p0
                  rw [hyy] at hq
                  have k3 := HE.out.2.2 _ hq.symm
                  obtain ⟨k4, k5⟩ := K2.out _ hq.symm
                  clear hyy hy0 hy1b hc1 hc0 hU hr1 hR1 hr2 D1 D2 hup hqy hqb eP eN0 eN1 er2 ep hA D hr
                  clear hq
                  go_wp2_with fail
                  go_ret2
                  exact ⟨rfl, lay_ex w []⟩
                · have hE' : ¬ (4294967296 : Int) ≤ (r2 : Int) := by omega
                  have hm : p < q := by omega
                  have HK := Lib.hid (And.intro D' (And.intro hm (Nat.lt_of_not_le hE)))
                  clear hyy hy0 hy1b hc1 hc0 hU hr1 hR1 hr2 D1 D2 hup hqy hqb eP eN0 eN1 er2 ep hA D hr
                  clear D' pB hE hm p0
                  go_wp2_with fail
                  go_roundw
                  case rel => exact ⟨p, r2, rfl, rfl, by first | trivial | rfl, HK.out.1, HK.out.2.2⟩
                  case measure =>
                    have := HK.out.2.1
                    simp only [intOf]
                    omega
              · have hA' : ¬ (4294967296 : Int) ≤ (q : Int) := by omega
                by_cases hB : N1 < P
                · have hB' : (N1 : Int) < (P : Int) := Int.ofNat_lt.2 hB
                  obtain ⟨p0, D', pB⟩ := di_step D hR1 hc0 (Or.inr (by rw [← eP]; omega))
                  clear hB
                  rw [← ep, ← er2] at D'
                  rw [← ep] at pB
                  have f4 : IntKind.u64.wrap ((q : Int) - 1) = (p : Int) := by rw [IntKind.wrap_u64]; omega
                  by_cases hE : 4294967296 ≤ r2
                  · have hE' : (4294967296 : Int) ≤ (r2 : Int) := by omega
                    obtain ⟨hq, -⟩ := di_done D' (di_break hy0 pB hE)
                    clear D' pB hE p0
                    rw [hyy] at hq
                    have k3 := HE.out.2.2 _ hq.symm
                    obtain ⟨k4, k5⟩ := K2.out _ hq.symm
                    clear hyy hy0 hy1b hc1 hc0 hU hr1 hR1 hr2 D1 D2 hup hqy hqb eP eN0 eN1 er2 ep hA D hr
                    clear hq
                    go_wp2_with fail
                    go_ret2
                    exact ⟨rfl, lay_ex w []⟩
                  · have hE' : ¬ (4294967296 : Int) ≤ (r2 : Int) := by omega
                    have hm : p < q := by omega
                    have HK := Lib.hid (And.intro D' (And.intro hm (Nat.lt_of_not_le hE)))
                    clear hyy hy0 hy1b hc1 hc0 hU hr1 hR1 hr2 D1 D2 hup hqy hqb eP eN0 eN1 er2 ep hA D hr
                    clear D' pB hE hm p0
                    go_wp2_with fail
                    go_roundw
                    case rel => exact ⟨p, r2, rfl, rfl, by first | trivial | rfl, HK.out.1, HK.out.2.2⟩
                    case measure =>
                      have := HK.out.2.1
                      simp only [intOf]
                      omega
                · have hB' : ¬ (N1 : Int) < (P : Int) := fun h => hB (Int.ofNat_lt.1 h)
                  obtain ⟨hq, -⟩ := di_done D (by rw [← eP]; omega)
                  clear hB
                  rw [hyy] at hq
                  have k3 := HE.out.2.2 _ hq.symm
                  obtain ⟨k4, k5⟩ := K2.out _ hq.symm
                  clear hyy hy0 hy1b hc1 hc0 hU hr1 hR1 hr2 D1 D2 hup hqy hqb eP eN0 eN1 er2 ep hA D hr
                  clear hq
                  go_wp2_with fail
                  go_ret2
                  exact ⟨rfl, lay_ex w []⟩
          · have hE' : ¬ (4294967296 : Int) ≤ (r2 : Int) := by omega
            have hm : p < q := by omega
            have HK := Lib.hid (And.intro D' (And.intro hm (Nat.lt_of_not_le hE)))
            clear hyy hy0 hy1b hc1 hc0 hU hr1 hR1 hr2 D1 D2 hup hqy hqb eP eN0 eN1 er2 ep hA D hr
            clear D' pB hE hm p0
            go_wp2_with fail
            go_roundw
            case rel => exact ⟨p, r2, rfl, rfl, by first | trivial | rfl, HK.out.1, HK.out.2.2⟩
            case measure =>
              have := HK.out.2.1
              simp only [intOf]
              omega
        · have hB' : ¬ (N1 : Int) < (P : Int) := fun h => hB (Int.ofNat_lt.1 h)
          obtain ⟨hq, -⟩ := di_done D (by rw [← eP]; omega)
          clear hB
          rw [hyy] at hq
          have k1 := HE.out.1 _ hq.symm
          have K2 := Lib.hid (HE.out.2.1 _ hq.symm)
          clear hyy hy0 hy1b hc1 hc0 hU hr1 hR1 hr2 D1 D2 hup hqy hqb eP eN0 eN1 er2 ep hA D hr
          clear hq
          go_wp2_with fail
          go_loopw [18, 16] (fun v18 v16 wr => ∃ q r : Nat, v18 = .int .u64 (q : Int) ∧ v16 = .int .u64 (r : Int) ∧ wr = lay w [] ∧ DI 4294967296 R1 y1 y0 c0 q r ∧ r < 4294967296) (fun v18 _ _ => (intOf v18).toNat)
          case atStart =>
            obtain ⟨hyy, hy0, hy1b, hc1, hc0, hU, hr1, hR1, hr2, D1, D2, hup⟩ := HX.out
            exact ⟨Q2, T2, rfl, rfl, rfl, D2, by omega⟩
          case round =>
            obtain ⟨q, r, rfl, rfl, hw, D, hr⟩ := hrel
            rw [hw]
            clear hw
            obtain ⟨hyy, hy0, hy1b, hc1, hc0, hU, hr1, hR1, hr2, D1, D2, hup⟩ := HX.out
            have hqy := Nat.mul_le_mul D.qb (Nat.le_sub_one_of_lt hy0)
            have hqb := D.qb
            obtain ⟨P, eP⟩ : ∃ P, P = q * y0 := ⟨_, rfl⟩
            obtain ⟨N0, eN0⟩ : ∃ N0, N0 = 4294967296 * r := ⟨_, rfl⟩
            obtain ⟨N1, eN1⟩ : ∃ N1, N1 = N0 + c0 := ⟨_, rfl⟩
            obtain ⟨r2, er2⟩ : ∃ r2, r2 = r + y1 := ⟨_, rfl⟩
            obtain ⟨p, ep⟩ : ∃ p, p = q - 1 := ⟨_, rfl⟩
            have f1 : IntKind.u64.wrap ((q : Int) * (y0 : Int)) = (P : Int) := by rw [Mul64.mulN, ← eP]; exact Mul64.wrapN _ (by omega)
            have f2 : IntKind.u64.wrap (4294967296 * (r : Int)) = (N0 : Int) := by rw [IntKind.wrap_u64]; omega
            have f3 : IntKind.u64.wrap ((N0 : Int) + (c0 : Int)) = (N1 : Int) := by rw [IntKind.wrap_u64]; omega
            have f5 : IntKind.u64.wrap ((r : Int) + (y1 : Int)) = (r2 : Int) := by rw [IntKind.wrap_u64]; omega
            by_cases hA : 4294967296 ≤ q
            · have hA' : (4294967296 : Int) ≤ (q : Int) := by omega
              obtain ⟨p0, D', pB⟩ := di_step D hR1 hc0 (Or.inl hA)
              rw [← ep, ← er2] at D'
              rw [← ep] at pB
              have f4 : IntKind.u64.wrap ((q : Int) - 1) = (p : Int) := by rw [IntKind.wrap_u64]; omega
              by_cases hE : 4294967296 ≤ r2
              · have hE' : (4294967296 : Int) ≤ (r2 : Int) := by omega
                obtain ⟨hq, -⟩ := di_done D' (di_break hy0 pB hE)
                clear D' pB hE p0
                rw [hyy] at hq
                have k3 := HE.out.2.2 _ hq.symm
                obtain ⟨k4, k5⟩ := K2.out _ hq.symm
                clear hyy hy0 hy1b hc1 hc0 hU hr1 hR1 hr2 D1 D2 hup hqy hqb eP eN0 eN1 er2 ep hA D hr
                clear hq
                go_wp2_with fail
                go_ret2
                exact ⟨rfl, lay_ex w []⟩
              · have hE' : ¬ (4294967296 : Int) ≤ (r2 : Int) := by omega
                have hm : p < q := by omega
                have HK := Lib.hid (And.intro D' (And.intro hm (Nat.lt_of_not_le hE)))
                clear hyy hy0 hy1b hc1 hc0 hU hr1 hR1 hr2 D1 D2 hup hqy hqb eP eN0 eN1 er2 ep hA D hr
                clear D' pB hE hm p0
                go_wp2_with fail
                go_roundw
                case rel => exact ⟨p, r2, rfl, rfl, by first | trivial | rfl, HK.out.1, HK.out.2.2⟩
                case measure =>
                  have := HK.out.2.1
                  simp only [intOf]
                  omega
            · have hA' : ¬ (4294967296 : Int) ≤ (q : Int) := by omega
              by_cases hB : N1 < P
              · have hB' : (N1 : Int) < (P : Int) := Int.ofNat_lt.2 hB
                obtain ⟨p0, D', pB⟩ := di_step D hR1 hc0 (Or.inr (by rw [← eP]; omega))
                clear hB
                rw [← ep, ← er2] at D'
                rw [← ep] at pB
                have f4 : IntKind.u64.wrap ((q : Int) - 1) = (p : Int) := by rw [IntKind.wrap_u64]; omega
                by_cases hE : 4294967296 ≤ r2
                · have hE' : (4294967296 : Int) ≤ (r2 : Int) := by omega
                  obtain ⟨hq, -⟩ := di_done D' (di_break hy0 pB hE)
                  clear D' pB hE p0
                  rw [hyy] at hq
                  have k3 := HE.out.2.2 _ hq.symm
                  obtain ⟨k4, k5⟩ := K2.out _ hq.symm
                  clear hyy hy0 hy1b hc1 hc0 hU hr1 hR1 hr2 D1 D2 hup hqy hqb eP eN0 eN1 er2 ep hA D hr
                  clear hq
                  go_wp2_with fail
                  go_ret2
                  exact ⟨rfl, lay_ex w []⟩
                · have hE' : ¬ (4294967296 : Int) ≤ (r2 : Int) := by omega
                  have hm : p < q := by omega
                  have HK := Lib.hid (And.intro D' (And.intro hm (Nat.lt_of_not_le hE)))
                  clear hyy hy0 hy1b hc1 hc0 hU hr1 hR1 hr2 D1 D2 hup hqy hqb eP eN0 eN1 er2 ep hA D hr
                  clear D' pB hE hm p0
                  go_wp2_with fail
                  go_roundw
                  case rel => exact ⟨p, r2, rfl, rfl, by first | trivial | rfl, HK.out.1, HK.out.2.2⟩
                  case measure =>
                    have := HK.out.2.1
                    simp only [intOf]
                    omega
              · have hB' : ¬ (N1 : Int) < (P : Int) := fun h => hB (Int.ofNat_lt.1 h)
                obtain ⟨hq, -⟩ := di_done D (by rw [← eP]; omega)
                clear hB
                rw [hyy] at hq
                have k3 := HE.out.2.2 _ hq.symm
                obtain ⟨k4, k5⟩ := K2.out _ hq.symm
                clear hyy hy0 hy1b hc1 hc0 hU hr1 hR1 hr2 D1 D2 hup hqy hqb eP eN0 eN1 er2 ep hA D hr
                clear hq
                go_wp2_with fail
                go_ret2
                exact ⟨rfl, lay_ex w []⟩
theorem div64 (hi lo y : Nat) (hhi : hi < y) (hlo : lo < 18446744073709551616) (hy : y < 18446744073709551616) (w : World) :
    Calls Tryz.prog 170 #[.int .u64 (hi : Int), .int .u64 (lo : Int), .int .u64 (y : Int)] w fun e w' =>
      e = .returned (.tuple #[.int .u64 (((hi * 18446744073709551616 + lo) / y : Nat) : Int), .int .u64 (((hi * 18446744073709551616 + lo) % y : Nat) : Int)]) ∧ ∃ d, w' = bw w d :=
  div64' hi lo y _ _ rfl rfl hhi hlo hy w
end Go.Proofs.YtkhhdpndcidmgaaGreat
