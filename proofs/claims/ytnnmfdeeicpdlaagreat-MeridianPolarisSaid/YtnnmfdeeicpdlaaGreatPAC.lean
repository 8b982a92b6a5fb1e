/- Contracts and plain laws, several texts in one: Shelf; Div2; Nm2; TgP; TgI; Nm3; NmP; Nm4; TgE -/
import Derived.Shelf.Small.Bits
import Derived.Shelf.Small.Wraps
import Derived.Shelf.Strconv.Itoa0
import Derived.Shelf.Sort.Plain
import Derived.Shelf.Bits.Mul64
import Derived.Shelf.Slices.Turned
import Derived.Ground.Names2Prog
import Derived.Shelf.Slices.Clone
import Derived.Shelf.Slices.CompactS
import Derived.Shelf.Slices.SearchI
import Derived.Shelf.Slices.Cells
import Derived.Shelf.Slices.In.SortNone
import Derived.Shelf.Slices.Empties
import Derived.Test.YtnnmfdeeicpdlaaGreatProg
import Derived.WalkKit
import Derived.WalkSpells
import Derived.WalkLawsBesides
import Derived.Lib.Hide
import Derived.BigQuiet
import Derived.Lib.ItoaNum
import GoSem.Core.Next
import Derived.Laws.Cover3
import Derived.Test.YtnnmfdeeicpdlaaGreatPAA
import Derived.Test.YtnnmfdeeicpdlaaGreatPAB
/- DERIVED: THE SHELF's CONTRACTS AT THIS DUMP, IN PLAIN WORDS (tools/lay-plain.mjs out of 'TryzShelf.lean', which tools/lay-shelf.mjs wrote): THE SAME DECLARATIONS UNDER THE SAME NAMES: 'import', 'namespace', 'open', 'def', 'theorem' AND NOTHING ELSE: no command of the shelf's: FOR A HAND-IN. Each laying: the table of numbers ('.._ren') and one theorem, a field a fact of the dump's own or the kernel's comparison; each contract: ONE APPLICATION. -/
namespace Go.Proofs
open Go.Shelf
def Tryz.lays134_ren : Go.Shelf.Ren := ⟨fun | 134 => 169 | 129 => 226 | n => n, fun | 53 => 132 | 3 => 3 | 4 => 4 | 46 => 124 | 5 => 5 | 9 => 9 | n => n, fun | n => n⟩
theorem Tryz.lays134 : Go.Proofs.Lays.n134 Tryz.prog Tryz.lays134_ren := {
  mixed := by kernel_rfl
  f129 := Tryz.func226.trans (congrArg some (by kernel_rfl))
  f134 := Tryz.func169.trans (congrArg some (by kernel_rfl))
  t3 := Tryz.underlying3
  a3 := Tryz.isAgg3
  z3 := Tryz.sizeOf3
  v3 := Tryz.zeroValue3
  t4 := Tryz.underlying4
  a4 := Tryz.isAgg4
  z4 := Tryz.sizeOf4
  v4 := Tryz.zeroValue4
  t5 := Tryz.underlying5
  a5 := Tryz.isAgg5
  z5 := Tryz.sizeOf5
  v5 := Tryz.zeroValue5
  t9 := Tryz.underlying9
  a9 := Tryz.isAgg9
  z9 := Tryz.sizeOf9
  v9 := Tryz.zeroValue9
  t46 := Tryz.underlying124
  a46 := Tryz.isAgg124
  z46 := Tryz.sizeOf124
  v46 := Tryz.zeroValue124
  t53 := Tryz.underlying132
  a53 := Tryz.isAgg132
  z53 := Tryz.sizeOf132
  v53 := Tryz.zeroValue132 }
theorem Tryz.bits_LeadingZeros64 (x : Int) (w : World) (h0 : 0 ≤ x) (h1 : x ≤ 18446744073709551615) :
    Calls Tryz.prog 169 #[.int .u64 x] w fun e w' => e = .returned (.int .i64 (64 - (Lib.bitLen x.toNat : Int))) ∧ w' = w := Any.bits_LeadingZeros64 Tryz.lays134 x w h0 h1
def Tryz.lays264_ren : Go.Shelf.Ren := ⟨fun | 264 => 79 | n => n, fun | 53 => 132 | 46 => 124 | n => n, fun | n => n⟩
theorem Tryz.lays264 : Go.Proofs.Lays.n264 Tryz.prog Tryz.lays264_ren := {
  mixed := by kernel_rfl
  f264 := Tryz.func79.trans (congrArg some (by kernel_rfl))
  t46 := Tryz.underlying124
  a46 := Tryz.isAgg124
  z46 := Tryz.sizeOf124
  v46 := Tryz.zeroValue124
  t53 := Tryz.underlying132
  a53 := Tryz.isAgg132
  z53 := Tryz.sizeOf132
  v53 := Tryz.zeroValue132 }
open Go.RowKit Go.Lib in
theorem Tryz.bits_Mul64 (x y : Nat) (hx : x < 18446744073709551616) (hy : y < 18446744073709551616) (w : World) :
    Calls Tryz.prog 79 #[.int .u64 x, .int .u64 y] w fun e w' => e = .returned (.tuple #[.int .u64 ((x * y / 18446744073709551616 : Nat) : Int), .int .u64 ((x * y % 18446744073709551616 : Nat) : Int)]) ∧ w' = w := Any.bits_Mul64 Tryz.lays264 x y hx hy w
end Go.Proofs
/- The walk of math/bits.Div64. -/
namespace Go.Proofs.YtnnmfdeeicpdlaaGreat
open Go.RowKit

theorem div_nums {hi lo y s : Nat} (hhi : hi < y) (hlo : lo < 18446744073709551616) (hs : s ≤ 63) :
    lo / 2 ^ (64 - s) < 2 ^ s ∧ hi * 2 ^ s + lo / 2 ^ (64 - s) < y * 2 ^ s ∧ (hi * 18446744073709551616 + lo) * 2 ^ s = (hi * 2 ^ s + lo / 2 ^ (64 - s)) * 18446744073709551616 + lo * 2 ^ s % 18446744073709551616 := by
  have hpr : 2 ^ s * 2 ^ (64 - s) = 18446744073709551616 := by rw [← Nat.pow_add]; rw [show s + (64 - s) = 64 by omega]
  have hp : 0 < 2 ^ s := Nat.pow_pos (by decide)
  have hr : 0 < 2 ^ (64 - s) := Nat.pow_pos (by decide)
  generalize 2 ^ s = p at *
  generalize 2 ^ (64 - s) = r at *
  have h1 : lo / r < p := Nat.div_lt_of_lt_mul (by rw [Nat.mul_comm, hpr]; exact hlo)
  refine ⟨h1, ?_, ?_⟩
  · have : (hi + 1) * p ≤ y * p := Nat.mul_le_mul_right _ hhi
    rw [Nat.succ_mul] at this
    generalize y * p = A at *
    generalize hi * p = C at *
    omega
  · have h2 : lo * p = lo / r * 18446744073709551616 + lo % r * p := by
      rw [← hpr, Nat.mul_comm p r, ← Nat.mul_assoc, ← Nat.add_mul, Nat.mul_comm (lo / r) r, Nat.div_add_mod]
    have h3 : lo % r * p < 18446744073709551616 := by
      rw [← hpr, Nat.mul_comm p r]; exact Nat.mul_lt_mul_of_pos_right (Nat.mod_lt _ hr) hp
    rw [Nat.add_mul, Nat.add_mul, h2, Nat.mul_right_comm hi 18446744073709551616 p]
    generalize lo % r * p = A at *
    generalize hi * p = C at *
    generalize lo / r = D at *
    omega
theorem lz_of (y : Nat) (h0 : y ≠ 0) (h1 : y < 18446744073709551616) : ∃ s : Nat, s ≤ 63 ∧ (64 - (Lib.bitLen y : Int)) = (s : Int) ∧ y * 2 ^ s < 18446744073709551616 ∧ 9223372036854775808 ≤ y * 2 ^ s := by
  obtain ⟨b1, b2, b3⟩ := Lib.bitLenAux_bounds 64 y (by simpa using h1) h0
  have e : Lib.bitLenAux 64 y = Lib.bitLen y := rfl
  rw [e] at b1 b2 b3
  have h64 : Lib.bitLen y ≤ 64 := Lib.bitLen_le y 64 (by omega) (by simpa using h1)
  generalize Lib.bitLen y = k at *
  refine ⟨64 - k, by omega, by omega, ?_, ?_⟩
  · have : y * 2 ^ (64 - k) < 2 ^ k * 2 ^ (64 - k) := Nat.mul_lt_mul_of_pos_right b3 (Nat.pow_pos (by decide))
    rw [← Nat.pow_add, show k + (64 - k) = 64 by omega] at this
    exact this
  · have : 2 ^ (k - 1) * 2 ^ (64 - k) ≤ y * 2 ^ (64 - k) := Nat.mul_le_mul_right _ b2
    rw [← Nat.pow_add, show k - 1 + (64 - k) = 63 by omega] at this
    exact this
theorem pow_cast (y s : Nat) : (y : Int) * 2 ^ s = ((y * 2 ^ s : Nat) : Int) := by rw [Int.natCast_mul, Int.natCast_pow]; rfl
theorem or_add {a b s : Nat} (h : b < 2 ^ s) : (a * 2 ^ s ||| b) = a * 2 ^ s + b := by rw [Nat.mul_comm a]; exact (Nat.two_pow_add_eq_or_of_lt h a).symm
theorem tdiv_cast (a b : Nat) : ((a : Int).tdiv (b : Int)) = ((a / b : Nat) : Int) := by rw [Int.tdiv_eq_ediv_of_nonneg (by omega)]; exact (Int.natCast_ediv a b).symm
theorem wrap_tdiv (a b : Nat) (ha : a < 18446744073709551616) : IntKind.u64.wrap ((a : Int).tdiv (b : Int)) = ((a / b : Nat) : Int) := by
  rw [tdiv_cast]; exact Mul64.wrapN _ (Nat.lt_of_le_of_lt (Nat.div_le_self _ _) ha)
theorem wrap_rest (a b : Nat) (ha : a < 18446744073709551616) : IntKind.u64.wrap ((a : Int) - IntKind.u64.wrap (((a / b : Nat) : Int) * (b : Int))) = ((a % b : Nat) : Int) := by
  have h := Nat.div_add_mod a b
  rw [Nat.mul_comm] at h
  rw [Mul64.mulN, Mul64.wrapN _ (by omega), IntKind.wrap_u64]
  generalize a / b * b = A at *
  generalize a % b = C at *
  omega
theorem wrap_digit (U c Y q : Nat) (hY : 0 < Y) (hYb : Y < 18446744073709551616) (hq : q = (U * 4294967296 + c) / Y) :
    IntKind.u64.wrap (IntKind.u64.wrap (IntKind.u64.wrap ((U : Int) * 4294967296) + (c : Int)) - IntKind.u64.wrap ((q : Int) * (Y : Int))) = (((U * 4294967296 + c) % Y : Nat) : Int) := by
  have h := Nat.div_add_mod (U * 4294967296 + c) Y
  have hl := Nat.mod_lt (U * 4294967296 + c) hY
  rw [← hq, Nat.mul_comm] at h
  rw [Mul64.mulN, IntKind.wrap_u64, IntKind.wrap_u64, IntKind.wrap_u64, IntKind.wrap_u64]
  generalize q * Y = A at *
  generalize (U * 4294967296 + c) % Y = C at *
  omega
theorem wrap_two (q1 q0 T : Nat) (h : q1 * 4294967296 + q0 = T) (hT : T < 18446744073709551616) :
    IntKind.u64.wrap (IntKind.u64.wrap ((q1 : Int) * 4294967296) + (q0 : Int)) = (T : Int) := by
  rw [IntKind.wrap_u64, IntKind.wrap_u64]; omega
theorem join_gen (B U L : Nat) : (U * B + L / B) * B + L % B = U * (B * B) + L := by
  have h := Nat.div_add_mod L B
  rw [Nat.add_mul, Nat.mul_assoc, Nat.mul_comm (L / B), Nat.add_assoc, h]
theorem join_words (U L : Nat) : (U * 4294967296 + L / 4294967296) * 4294967296 + L % 4294967296 = U * 18446744073709551616 + L := by
  have h := join_gen 4294967296 U L
  have e : (4294967296 * 4294967296 : Nat) = 18446744073709551616 := by decide
  rw [e] at h
  exact h
set_option maxHeartbeats 4000000 in
theorem div64' (hi lo y qf rf : Nat) (hqf : qf = (hi * 18446744073709551616 + lo) / y) (hrf : rf = (hi * 18446744073709551616 + lo) % y) (hhi : hi < y) (hlo : lo < 18446744073709551616) (hy : y < 18446744073709551616) (w : World) :
    Calls Tryz.prog 80 #[.int .u64 (hi : Int), .int .u64 (lo : Int), .int .u64 (y : Int)] w fun e w' =>
      e = .returned (.tuple #[.int .u64 (qf : Int), .int .u64 (rf : Int)]) ∧ ∃ d, w' = bw w d := by
  refine lay_start ?_
  have hyz : (y : Int) ≠ 0 := by omega
  have hyn : ¬ y = 0 := by omega
  have hlt : ¬ (y : Int) ≤ (hi : Int) := by omega
  have hyb : ((y : Int) == 0) = false := by simp; omega
  by_cases h0 : hi = 0
  · subst h0
    have hq : IntKind.u64.wrap ((lo : Int).tdiv (y : Int)) = ((lo / y : Nat) : Int) := wrap_tdiv lo y hlo
    have hr : IntKind.u64.wrap ((lo : Int) % (y : Int)) = ((lo % y : Nat) : Int) := by
      rw [← Int.natCast_emod]; exact Mul64.wrapN _ (Nat.lt_of_le_of_lt (Nat.mod_le _ _) hlo)
    go_enter Tryz.func80, Tryz.ntmps80
    go_wp2_with fail
    refine region_bw (by kernel_rfl) (by kernel_rfl) ?_
    repeat (go_big_quiet_step ((first | fail)))
    refine wpQuiet_nil ?_
    rintro w' ⟨d, rfl⟩
    rw [lay_bw]
    go_wp2_with fail
    have hq' : IntKind.u64.wrap ((lo : Int) / (y : Int)) = ((lo / y : Nat) : Int) := by
      rw [← Int.natCast_ediv]; exact Mul64.wrapN _ (Nat.lt_of_le_of_lt (Nat.div_le_self _ _) hlo)
    go_ret2
    refine ⟨?_, lay_ex w _⟩
    rw [hq', ← Int.natCast_emod, hqf, hrf, Nat.zero_mul, Nat.zero_add]
    rfl
  · have h0b : ((hi : Int) == 0) = false := by simp; omega
    obtain ⟨s, hs, es, hup, hdn⟩ := lz_of y (by omega) hy
    obtain ⟨n1, n2, n3⟩ := div_nums hhi hlo hs
    have c := Tryz.bits_LeadingZeros64 (y : Int) (lay w []) (by omega) (by omega)
    rw [show ((y : Int).toNat) = y by omega, es] at c
    obtain ⟨hsh1, hsh2⟩ := shifted (hi * 18446744073709551616 + lo) y s
    have hTb : (hi * 18446744073709551616 + lo) / y < 18446744073709551616 := Nat.div_lt_of_lt_mul (by
      have : (hi + 1) * 18446744073709551616 ≤ y * 18446744073709551616 := Nat.mul_le_mul_right _ hhi
      omega)
    have eY : IntKind.u64.wrap ((y : Int) * 2 ^ s) = ((y * 2 ^ s : Nat) : Int) := by rw [pow_cast]; exact Mul64.wrapN _ hup
    have eL : IntKind.u64.wrap ((lo : Int) * 2 ^ s) = ((lo * 2 ^ s % 18446744073709551616 : Nat) : Int) := by rw [pow_cast]; exact Mul64.wrapM _
    obtain ⟨H0, eH0⟩ : ∃ H0, H0 = hi * 2 ^ s := ⟨_, rfl⟩
    obtain ⟨D0, eD0⟩ : ∃ D0, D0 = lo / 2 ^ (64 - s) := ⟨_, rfl⟩
    rw [← eH0, ← eD0] at n2 n3
    rw [← eD0] at n1
    have hhs : H0 < 18446744073709551616 := Nat.lt_of_le_of_lt (Nat.le_add_right _ _) (Nat.lt_trans n2 hup)
    have eH : IntKind.u64.wrap ((hi : Int) * 2 ^ s) = (H0 : Int) := by rw [pow_cast, ← eH0]; exact Mul64.wrapN _ hhs
    have eD : (lo : Int) / 2 ^ (64 - s) = (D0 : Int) := by rw [eD0, Int.natCast_ediv, Int.natCast_pow]; rfl
    have eO : bits .or .u64 (H0 : Int) (D0 : Int) = ((H0 + D0 : Nat) : Int) := by
      rw [bits_or_u64_nat _ _ hhs (Nat.lt_of_le_of_lt (Nat.le_add_left _ _) (Nat.lt_trans n2 hup)), eH0, or_add n1]
    have ep : ((M : Nat) → ((M : Nat) : Int) / 2 ^ s = ((M / 2 ^ s : Nat) : Int)) := fun M => by rw [Int.natCast_ediv, Int.natCast_pow]; rfl
    rw [n3] at hsh1 hsh2
    generalize hGL : lo * 2 ^ s % 18446744073709551616 = L at *
    generalize hGU : H0 + D0 = U at *
    generalize hGY : y * 2 ^ s = Y at *
    have hL : L < 18446744073709551616 := by rw [← hGL]; exact Nat.mod_lt _ (by decide)
    have m1 : bits .and .u64 (Y : Int) 4294967295 = ((Y % 4294967296 : Nat) : Int) := Mul64.maskN Y hup
    have m2 : bits .and .u64 (L : Int) 4294967295 = ((L % 4294967296 : Nat) : Int) := Mul64.maskN L hL
    have d1 : (Y : Int) / 4294967296 = ((Y / 4294967296 : Nat) : Int) := Mul64.divN _
    have d2 : (L : Int) / 4294967296 = ((L / 4294967296 : Nat) : Int) := Mul64.divN _
    obtain ⟨y1, hy1⟩ : ∃ y1, y1 = Y / 4294967296 := ⟨_, rfl⟩
    obtain ⟨y0, hy0e⟩ : ∃ y0, y0 = Y % 4294967296 := ⟨_, rfl⟩
    obtain ⟨c1, hc1e⟩ : ∃ c1, c1 = L / 4294967296 := ⟨_, rfl⟩
    obtain ⟨c0, hc0e⟩ : ∃ c0, c0 = L % 4294967296 := ⟨_, rfl⟩
    rw [← hy1] at d1
    rw [← hy0e] at m1
    rw [← hc1e] at d2
    rw [← hc0e] at m2
    have hyy : y1 * 4294967296 + y0 = Y := by omega
    have hy0 : y0 < 4294967296 := by omega
    have hy1b : y1 < 4294967296 := by omega
    have hc1 : c1 < 4294967296 := by omega
    have hc0 : c0 < 4294967296 := by omega
    have hy1u : 4294967296 ≤ 2 * y1 := by omega
    have hU : U < y1 * 4294967296 + y0 := by omega
    have hUb : U < 18446744073709551616 := by omega
    obtain ⟨Q1, eQ1⟩ : ∃ Q1, Q1 = U / y1 := ⟨_, rfl⟩
    obtain ⟨T1, eT1⟩ : ∃ T1, T1 = U % y1 := ⟨_, rfl⟩
    obtain ⟨D1, hr1⟩ := di_init hy1u hy0 hU hc1
    have g1 : IntKind.u64.wrap ((U : Int) / (y1 : Int)) = (Q1 : Int) := by rw [eQ1, ← wrap_tdiv U y1 hUb, tdiv_cast, Int.natCast_ediv]
    have g2 := wrap_rest U y1 hUb
    rw [← eQ1, ← eT1] at g2 D1
    rw [← eT1] at hr1
    obtain ⟨R1, hR1e⟩ : ∃ R1, R1 = (U * 4294967296 + c1) % Y := ⟨_, rfl⟩
    have hR1 : R1 < y1 * 4294967296 + y0 := by rw [hyy, hR1e]; exact Nat.mod_lt _ (by omega)
    have hR1b : R1 < 18446744073709551616 := by omega
    obtain ⟨Q2, eQ2⟩ : ∃ Q2, Q2 = R1 / y1 := ⟨_, rfl⟩
    obtain ⟨T2, eT2⟩ : ∃ T2, T2 = R1 % y1 := ⟨_, rfl⟩
    obtain ⟨D2, hr2⟩ := di_init hy1u hy0 hR1 hc0
    have g3 : IntKind.u64.wrap ((R1 : Int) / (y1 : Int)) = (Q2 : Int) := by rw [eQ2, ← wrap_tdiv R1 y1 hR1b, tdiv_cast, Int.natCast_ediv]
    have g4 := wrap_rest R1 y1 hR1b
    rw [← eQ2, ← eT2] at g4 D2
    rw [← eT2] at hr2
    have hT : ∀ q1 : Nat, q1 = (U * 4294967296 + c1) / Y → IntKind.u64.wrap (IntKind.u64.wrap (IntKind.u64.wrap ((U : Int) * 4294967296) + (c1 : Int)) - IntKind.u64.wrap ((q1 : Int) * (Y : Int))) = (R1 : Int) := fun q1 h => by
      rw [hR1e]; exact wrap_digit U c1 Y q1 (by omega) (by omega) h
    obtain ⟨t1, t2⟩ := two_digits (B := 4294967296) (U := U) (c1 := c1) (c0 := c0) (y := Y) (by omega)
    have hML : (U * 4294967296 + c1) * 4294967296 + c0 = U * 18446744073709551616 + L := by rw [hc1e, hc0e]; exact join_words U L
    rw [hML, hsh1] at t1
    rw [hML] at t2
    rw [← hR1e] at t1 t2
    rw [← hqf] at t1
    obtain ⟨R0, hR0⟩ : ∃ R0, R0 = (R1 * 4294967296 + c0) % Y := ⟨_, rfl⟩
    rw [← hqf] at hTb
    rw [t2] at hsh2
    have hE1 : ∀ q1 : Nat, q1 = (U * 4294967296 + c1) / Y → ∀ q0 : Nat, q0 = (R1 * 4294967296 + c0) / Y → IntKind.u64.wrap (IntKind.u64.wrap ((q1 : Int) * 4294967296) + (q0 : Int)) = (qf : Int) ∧ IntKind.u64.wrap ((q1 : Int) * 4294967296 + (q0 : Int)) = (qf : Int) := fun q1 h1 q0 h0 => by
      have e : q1 * 4294967296 + q0 = qf := by rw [t1, h1, h0]
      refine ⟨wrap_two q1 q0 _ e hTb, ?_⟩
      rw [IntKind.wrap_u64]; omega
    have hE2 : ∀ q0 : Nat, q0 = (R1 * 4294967296 + c0) / Y → IntKind.u64.wrap (IntKind.u64.wrap (IntKind.u64.wrap ((R1 : Int) * 4294967296) + (c0 : Int)) - IntKind.u64.wrap ((q0 : Int) * (Y : Int))) = (R0 : Int) := fun q0 h => by
      rw [hR0]; exact wrap_digit R1 c0 Y q0 (by omega) (by omega) h
    have hE3 : (R0 : Int) / 2 ^ s = (rf : Int) := by rw [ep, hR0, hsh2, hrf]
    have hy1z : (y1 : Int) ≠ 0 := by omega
    have hy1n : ¬ y1 = 0 := by omega
    clear t1 t2 hML hsh1 hsh2 hGL hGU hGY n1 n2 n3 ep es hR1e hTb eQ1 eT1 eQ2 eT2 hR0 eH0 eD0 hqf hrf hL hhs hUb hR1b hy1u hdn
    have HX := Lib.hid (And.intro hyy (And.intro hy0 (And.intro hy1b (And.intro hc1 (And.intro hc0 (And.intro hU (And.intro hr1 (And.intro hR1 (And.intro hr2 (And.intro D1 (And.intro D2 hup)))))))))))
    have HE := Lib.hid (And.intro hT (And.intro hE1 hE2))
    clear hyy hy0 hy1b hc1 hc0 hU hr1 hR1 hr2 D1 D2 hT hE1 hE2 hup hy1 hy0e hc1e hc0e hhi hlo hy h0
    go_enter Tryz.func80, Tryz.ntmps80
    go_wp2_with (first | (go_at_call 169; refine c.mono ?_; rintro e w' ⟨rfl, hw⟩; rw [hw]))
    go_loopw [15, 16] (fun v15 v16 wr => ∃ q r : Nat, v15 = .int .u64 (q : Int) ∧ v16 = .int .u64 (r : Int) ∧ wr = lay w [] ∧ DI 4294967296 U y1 y0 c1 q r ∧ r < 4294967296) (fun v15 _ _ => (intOf v15).toNat)
    case atStart =>
      obtain ⟨hyy, hy0, hy1b, hc1, hc0, hU, hr1, hR1, hr2, D1, D2, hup⟩ := HX.out
      exact ⟨Q1, T1, rfl, rfl, rfl, D1, by omega⟩
    case round =>
      obtain ⟨q, r, rfl, rfl, hw, D, hr⟩ := hrel
      rw [hw]
      clear hw
      obtain ⟨hyy, hy0, hy1b, hc1, hc0, hU, hr1, hR1, hr2, D1, D2, hup⟩ := HX.out
      have hqy := Nat.mul_le_mul D.qb (Nat.le_sub_one_of_lt hy0)
      have hqb := D.qb
      obtain ⟨P, eP⟩ : ∃ P, P = q * y0 := ⟨_, rfl⟩
      obtain ⟨N0, eN0⟩ : ∃ N0, N0 = 4294967296 * r := ⟨_, rfl⟩
      obtain ⟨N1, eN1⟩ : ∃ N1, N1 = N0 + c1 := ⟨_, rfl⟩
      obtain ⟨r2, er2⟩ : ∃ r2, r2 = r + y1 := ⟨_, rfl⟩
      obtain ⟨p, ep⟩ : ∃ p, p = q - 1 := ⟨_, rfl⟩
      have f1 : IntKind.u64.wrap ((q : Int) * (y0 : Int)) = (P : Int) := by rw [Mul64.mulN, ← eP]; exact Mul64.wrapN _ (by omega)
      have f2 : IntKind.u64.wrap (4294967296 * (r : Int)) = (N0 : Int) := by rw [IntKind.wrap_u64]; omega
      have f3 : IntKind.u64.wrap ((N0 : Int) + (c1 : Int)) = (N1 : Int) := by rw [IntKind.wrap_u64]; omega
      have f5 : IntKind.u64.wrap ((r : Int) + (y1 : Int)) = (r2 : Int) := by rw [IntKind.wrap_u64]; omega
      by_cases hA : 4294967296 ≤ q
      · have hA' : (4294967296 : Int) ≤ (q : Int) := by omega
        obtain ⟨p0, D', pB⟩ := di_step D hU hc1 (Or.inl hA)
        rw [← ep, ← er2] at D'
        rw [← ep] at pB
        have f4 : IntKind.u64.wrap ((q : Int) - 1) = (p : Int) := by rw [IntKind.wrap_u64]; omega
        by_cases hE : 4294967296 ≤ r2
        · have hE' : (4294967296 : Int) ≤ (r2 : Int) := by omega
          obtain ⟨hq, -⟩ := di_done D' (di_break hy0 pB hE)
          clear D' pB hE p0
          rw [hyy] at hq
          have k1 := HE.out.1 _ hq.symm
          have K2 := Lib.hid (HE.out.2.1 _ hq.symm)
          clear hyy hy0 hy1b hc1 hc0 hU hr1 hR1 hr2 D1 D2 hup hqy hqb eP eN0 eN1 er2 ep hA D hr
          clear hq
          go_wp2_with fail
          go_loopw [18, 16] (fun v18 v16 wr => ∃ q r : Nat, v18 = .int .u64 (q : Int) ∧ v16 = .int .u64 (r : Int) ∧ wr = lay w [] ∧ DI 4294967296 R1 y1 y0 c0 q r ∧ r < 4294967296) (fun v18 _ _ => (intOf v18).toNat)
          case atStart =>
            obtain ⟨hyy, hy0, hy1b, hc1, hc0, hU, hr1, hR1, hr2, D1, D2, hup⟩ := HX.out
            exact ⟨Q2, T2, rfl, rfl, rfl, D2, by omega⟩
          case round =>
            obtain ⟨q, r, rfl, rfl, hw, D, hr⟩ := hrel
            rw [hw]
            clear hw
            obtain ⟨hyy, hy0, hy1b, hc1, hc0, hU, hr1, hR1, hr2, D1, D2, hup⟩ := HX.out
            have hqy := Nat.mul_le_mul D.qb (Nat.le_sub_one_of_lt hy0)
            have hqb := D.qb
            obtain ⟨P, eP⟩ : ∃ P, P = q * y0 := ⟨_, rfl⟩
            obtain ⟨N0, eN0⟩ : ∃ N0, N0 = 4294967296 * r := ⟨_, rfl⟩
            obtain ⟨N1, eN1⟩ : ∃ N1, N1 = N0 + c0 := ⟨_, rfl⟩
            obtain ⟨r2, er2⟩ : ∃ r2, r2 = r + y1 := ⟨_, rfl⟩
            obtain ⟨p, ep⟩ : ∃ p, p = q - 1 := ⟨_, rfl⟩
            have f1 : IntKind.u64.wrap ((q : Int) * (y0 : Int)) = (P : Int) := by rw [Mul64.mulN, ← eP]; exact Mul64.wrapN _ (by omega)
            have f2 : IntKind.u64.wrap (4294967296 * (r : Int)) = (N0 : Int) := by rw [IntKind.wrap_u64]; omega
            have f3 : IntKind.u64.wrap ((N0 : Int) + (c0 : Int)) = (N1 : Int) := by rw [IntKind.wrap_u64]; omega
            have f5 : IntKind.u64.wrap ((r : Int) + (y1 : Int)) = (r2 : Int) := by rw [IntKind.wrap_u64]; omega
            by_cases hA : 4294967296 ≤ q
            · have hA' : (4294967296 : Int) ≤ (q : Int) := by omega
              obtain ⟨p0, D', pB⟩ := di_step D hR1 hc0 (Or.inl hA)
              rw [← ep, ← er2] at D'
              rw [← ep] at pB
              have f4 : IntKind.u64.wrap ((q : Int) - 1) = (p : Int) := by rw [IntKind.wrap_u64]; omega
              by_cases hE : 4294967296 ≤ r2
              · have hE' : (4294967296 : Int) ≤ (r2 : Int) := by omega
                obtain ⟨hq, -⟩ := di_done D' (di_break hy0 pB hE)
                clear D' pB hE p0
                rw [hyy] at hq
                have k3 := HE.out.2.2 _ hq.symm
                obtain ⟨k4, k5⟩ := K2.out _ hq.symm
                clear hyy hy0 hy1b hc1 hc0 hU hr1 hR1 hr2 D1 D2 hup hqy hqb eP eN0 eN1 er2 ep hA D hr
                clear hq
                go_wp2_with fail
                go_ret2
                exact ⟨rfl, lay_ex w []⟩
              · have hE' : ¬ (4294967296 : Int) ≤ (r2 : Int) := by omega
                have hm : p < q := by omega
                have HK := Lib.hid (And.intro D' (And.intro hm (Nat.lt_of_not_le hE)))
                clear hyy hy0 hy1b hc1 hc0 hU hr1 hR1 hr2 D1 D2 hup hqy hqb eP eN0 eN1 er2 ep hA D hr
                clear D' pB hE hm p0
                go_wp2_with fail
                go_roundw
                case rel => exact ⟨p, r2, rfl, rfl, by first | trivial | rfl, HK.out.1, HK.out.2.2⟩
                case measure =>
                  have := HK.out.2.1
                  simp only [intOf]
                  omega
            · have hA' : ¬ (4294967296 : Int) ≤ (q : Int) := by omega
              by_cases hB : N1 < P
              · have hB' : (N1 : Int) < (P : Int) := Int.ofNat_lt.2 hB
                obtain ⟨p0, D', pB⟩ := di_step D hR1 hc0 (Or.inr (by rw [← eP]; omega))
                clear hB
                rw [← ep, ← er2] at D'
                rw [← ep] at pB
                have f4 : IntKind.u64.wrap ((q : Int) - 1) = (p : Int) := by rw [IntKind.wrap_u64]; omega
                by_cases hE : 4294967296 ≤ r2
                · have hE' : (4294967296 : Int) ≤ (r2 : Int) := by omega
                  obtain ⟨hq, -⟩ := di_done D' (di_break hy0 pB hE)
                  clear D' pB hE p0
                  rw [hyy] at hq
                  have k3 := HE.out.2.2 _ hq.symm
                  obtain ⟨k4, k5⟩ := K2.out _ hq.symm
                  clear hyy hy0 hy1b hc1 hc0 hU hr1 hR1 hr2 D1 D2 hup hqy hqb eP eN0 eN1 er2 ep hA D hr
                  clear hq
                  go_wp2_with fail
                  go_ret2
                  exact ⟨rfl, lay_ex w []⟩
                · have hE' : ¬ (4294967296 : Int) ≤ (r2 : Int) := by omega
                  have hm : p < q := by omega
                  have HK := Lib.hid (And.intro D' (And.intro hm (Nat.lt_of_not_le hE)))
                  clear hyy hy0 hy1b hc1 hc0 hU hr1 hR1 hr2 D1 D2 hup hqy hqb eP eN0 eN1 er2 ep hA D hr
                  clear D' pB hE hm p0
                  go_wp2_with fail
                  go_roundw
                  case rel => exact ⟨p, r2, rfl, rfl, by first | trivial | rfl, HK.out.1, HK.out.2.2⟩
                  case measure =>
                    have := HK.out.2.1
                    simp only [intOf]
                    omega
              · have hB' : ¬ (N1 : Int) < (P : Int) := fun h => hB (Int.ofNat_lt.1 h)
                obtain ⟨hq, -⟩ := di_done D (by rw [← eP]; omega)
                clear hB
                rw [hyy] at hq
                have k3 := HE.out.2.2 _ hq.symm
                obtain ⟨k4, k5⟩ := K2.out _ hq.symm
                clear hyy hy0 hy1b hc1 hc0 hU hr1 hR1 hr2 D1 D2 hup hqy hqb eP eN0 eN1 er2 ep hA D hr
                clear hq
                go_wp2_with fail
                go_ret2
                exact ⟨rfl, lay_ex w []⟩
        · have hE' : ¬ (4294967296 : Int) ≤ (r2 : Int) := by omega
          have hm : p < q := by omega
          have HK := Lib.hid (And.intro D' (And.intro hm (Nat.lt_of_not_le hE)))
          clear hyy hy0 hy1b hc1 hc0 hU hr1 hR1 hr2 D1 D2 hup hqy hqb eP eN0 eN1 er2 ep hA D hr
          clear D' pB hE hm p0
          go_wp2_with fail
          go_roundw
          case rel => exact ⟨p, r2, rfl, rfl, by first | trivial | rfl, HK.out.1, HK.out.2.2⟩
          case measure =>
            have := HK.out.2.1
            simp only [intOf]
            omega
      · have hA' : ¬ (4294967296 : Int) ≤ (q : Int) := by omega
        by_cases hB : N1 < P
        · have hB' : (N1 : Int) < (P : Int) := Int.ofNat_lt.2 hB
          obtain ⟨p0, D', pB⟩ := di_step D hU hc1 (Or.inr (by rw [← eP]; omega))
          clear hB
          rw [← ep, ← er2] at D'
          rw [← ep] at pB
          have f4 : IntKind.u64.wrap ((q : Int) - 1) = (p : Int) := by rw [IntKind.wrap_u64]; omega
          by_cases hE : 4294967296 ≤ r2
          · have hE' : (4294967296 : Int) ≤ (r2 : Int) := by omega
            obtain ⟨hq, -⟩ := di_done D' (di_break hy0 pB hE)
            clear D' pB hE p0
            rw [hyy] at hq
            have k1 := HE.out.1 _ hq.symm
            have K2 := Lib.hid (HE.out.2.1 _ hq.symm)
            clear hyy hy0 hy1b hc1 hc0 hU hr1 hR1 hr2 D1 D2 hup hqy hqb eP eN0 eN1 er2 ep hA D hr
            clear hq
            go_wp2_with fail
            go_loopw [18, 16] (fun v18 v16 wr => ∃ q r : Nat, v18 = .int .u64 (q : Int) ∧ v16 = .int .u64 (r : Int) ∧ wr = lay w [] ∧ DI 4294967296 R1 y1 y0 c0 q r ∧ r < 4294967296) (fun v18 _ _ => (intOf v18).toNat)
            case atStart =>
              obtain ⟨hyy, hy0, hy1b, hc1, hc0, hU, hr1, hR1, hr2, D1, D2, hup⟩ := HX.out
              exact ⟨Q2, T2, rfl, rfl, rfl, D2, by omega⟩
            case round =>
              obtain ⟨q, r, rfl, rfl, hw, D, hr⟩ := hrel
              rw [hw]
              clear hw
              obtain ⟨hyy, hy0, hy1b, hc1, hc0, hU, hr1, hR1, hr2, D1, D2, hup⟩ := HX.out
              have hqy := Nat.mul_le_mul D.qb (Nat.le_sub_one_of_lt hy0)
              have hqb := D.qb
              obtain ⟨P, eP⟩ : ∃ P, P = q * y0 := ⟨_, rfl⟩
              obtain ⟨N0, eN0⟩ : ∃ N0, N0 = 4294967296 * r := ⟨_, rfl⟩
              obtain ⟨N1, eN1⟩ : ∃ N1, N1 = N0 + c0 := ⟨_, rfl⟩
              obtain ⟨r2, er2⟩ : ∃ r2, r2 = r + y1 := ⟨_, rfl⟩
              obtain ⟨p, ep⟩ : ∃ p, p = q - 1 := ⟨_, rfl⟩
              have f1 : IntKind.u64.wrap ((q : Int) * (y0 : Int)) = (P : Int) := by rw [Mul64.mulN, ← eP]; exact Mul64.wrapN _ (by omega)
              have f2 : IntKind.u64.wrap (4294967296 * (r : Int)) = (N0 : Int) := by rw [IntKind.wrap_u64]; omega
              have f3 : IntKind.u64.wrap ((N0 : Int) + (c0 : Int)) = (N1 : Int) := by rw [IntKind.wrap_u64]; omega
              have f5 : IntKind.u64.wrap ((r : Int) + (y1 : Int)) = (r2 : Int) := by rw [IntKind.wrap_u64]; omega
              by_cases hA : 4294967296 ≤ q
              · have hA' : (4294967296 : Int) ≤ (q : Int) := by omega
                obtain ⟨p0, D', pB⟩ := di_step D hR1 hc0 (Or.inl hA)
                rw [← ep, ← er2] at D'
                rw [← ep] at pB
                have f4 : IntKind.u64.wrap ((q : Int) - 1) = (p : Int) := by rw [IntKind.wrap_u64]; omega
                by_cases hE : 4294967296 ≤ r2
                · have hE' : (4294967296 : Int) ≤ (r2 : Int) := by omega
                  obtain ⟨hq, -⟩ := di_done D' (di_break hy0 pB hE)
                  clear D' pB hE p0
                  rw [hyy] at hq
                  have k3 := HE.out.2.2 _ hq.symm
                  obtain ⟨k4, k5⟩ := K2.out _ hq.symm
                  clear hyy hy0 hy1b hc1 hc0 hU hr1 hR1 hr2 D1 D2 hup hqy hqb eP eN0 eN1 er2 ep hA D hr
                  clear hq
                  go_wp2_with fail
                  go_ret2
                  exact ⟨rfl, lay_ex w []⟩
                · have hE' : ¬ (4294967296 : Int) ≤ (r2 : Int) := by omega
                  have hm : p < q := by omega
                  have HK := Lib.hid (And.intro D' (And.intro hm (Nat.lt_of_not_le hE)))
                  clear hyy hy0 hy1b hc1 hc0 hU hr1 hR1 hr2 D1 D2 hup hqy hqb eP eN0 eN1 er2 ep hA D hr
                  clear D' pB hE hm p0
                  go_wp2_with fail
                  go_roundw
                  case rel => exact ⟨p, r2, rfl, rfl, by first | trivial | rfl, HK.out.1, HK.out.2.2⟩
                  case measure =>
                    have := HK.out.2.1
                    simp only [intOf]
                    omega
              · have hA' : ¬ (4294967296 : Int) ≤ (q : Int) := by omega
                by_cases hB : N1 < P
                · have hB' : (N1 : Int) < (P : Int) := Int.ofNat_lt.2 hB
                  obtain ⟨p0, D', pB⟩ := di_step D hR1 hc0 (Or.inr (by rw [← eP]; omega))
                  clear hB
                  rw [← ep, ← er2] at D'
                  rw [← ep] at pB
                  have f4 : IntKind.u64.wrap ((q : Int) - 1) = (p : Int) := by rw [IntKind.wrap_u64]; omega
                  by_cases hE : 4294967296 ≤ r2
                  · have hE' : (4294967296 : Int) ≤ (r2 : Int) := by omega
                    obtain ⟨hq, -⟩ := di_done D' (di_break hy0 pB hE)
                    clear D' pB hE p0
                    rw [hyy] at hq
                    have k3 := HE.out.2.2 _ hq.symm
                    obtain ⟨k4, k5⟩ := K2.out _ hq.symm
                    clear hyy hy0 hy1b hc1 hc0 hU hr1 hR1 hr2 D1 D2 hup hqy hqb eP eN0 eN1 er2 ep hA D hr
                    clear hq
                    go_wp2_with fail
                    go_ret2
                    exact ⟨rfl, lay_ex w []⟩
                  · have hE' : ¬ (4294967296 : Int) ≤ (r2 : Int) := by omega
                    have hm : p < q := by omega
                    have HK := Lib.hid (And.intro D' (And.intro hm (Nat.lt_of_not_le hE)))
                    clear hyy hy0 hy1b hc1 hc0 hU hr1 hR1 hr2 D1 D2 hup hqy hqb eP eN0 eN1 er2 ep hA D hr
                    clear D' pB hE hm p0
                    go_wp2_with fail
                    go_roundw
                    case rel => exact ⟨p, r2, rfl, rfl, by first | trivial | rfl, HK.out.1, HK.out.2.2⟩
                    case measure =>
                      have := HK.out.2.1
                      simp only [intOf]
                      omega
                · have hB' : ¬ (N1 : Int) < (P : Int) := fun h => hB (Int.ofNat_lt.1 h)
                  obtain ⟨hq, -⟩ := di_done D (by rw [← eP]; omega)
                  clear hB
                  rw [hyy] at hq
                  have k3 := HE.out.2.2 _ hq.symm
                  obtain ⟨k4, k5⟩ := K2.out _ hq.symm
                  clear hyy hy0 hy1b hc1 hc0 hU hr1 hR1 hr2 D1 D2 hup hqy hqb eP eN0 eN1 er2 ep hA D hr
                  clear hq
                  go_wp2_with fail
                  go_ret2
                  exact ⟨rfl, lay_ex w []⟩
          · have hE' : ¬ (4294967296 : Int) ≤ (r2 : Int) := by omega
            have hm : p < q := by omega
            have HK := Lib.hid (And.intro D' (And.intro hm (Nat.lt_of_not_le hE)))
            clear hyy hy0 hy1b hc1 hc0 hU hr1 hR1 hr2 D1 D2 hup hqy hqb eP eN0 eN1 er2 ep hA D hr
            clear D' pB hE hm p0
            go_wp2_with fail
            go_roundw
            case rel => exact ⟨p, r2, rfl, rfl, by first | trivial | rfl, HK.out.1, HK.out.2.2⟩
            case measure =>
              have := HK.out.2.1
              simp only [intOf]
              omega
        · have hB' : ¬ (N1 : Int) < (P : Int) := fun h => hB (Int.ofNat_lt.1 h)
          obtain ⟨hq, -⟩ := di_done D (by rw [← eP]; omega)
          clear hB
          rw [hyy] at hq
          have k1 := HE.out.1 _ hq.symm
          have K2 := Lib.hid (HE.out.2.1 _ hq.symm)
          clear hyy hy0 hy1b hc1 hc0 hU hr1 hR1 hr2 D1 D2 hup hqy hqb eP eN0 eN1 er2 ep hA D hr
          clear hq
          go_wp2_with fail
          go_loopw [18, 16] (fun v18 v16 wr => ∃ q r : Nat, v18 = .int .u64 (q : Int) ∧ v16 = .int .u64 (r : Int) ∧ wr = lay w [] ∧ DI 4294967296 R1 y1 y0 c0 q r ∧ r < 4294967296) (fun v18 _ _ => (intOf v18).toNat)
          case atStart =>
            obtain ⟨hyy, hy0, hy1b, hc1, hc0, hU, hr1, hR1, hr2, D1, D2, hup⟩ := HX.out
            exact ⟨Q2, T2, rfl, rfl, rfl, D2, by omega⟩
          case round =>
            obtain ⟨q, r, rfl, rfl, hw, D, hr⟩ := hrel
            rw [hw]
            clear hw
            obtain ⟨hyy, hy0, hy1b, hc1, hc0, hU, hr1, hR1, hr2, D1, D2, hup⟩ := HX.out
            have hqy := Nat.mul_le_mul D.qb (Nat.le_sub_one_of_lt hy0)
            have hqb := D.qb
            obtain ⟨P, eP⟩ : ∃ P, P = q * y0 := ⟨_, rfl⟩
            obtain ⟨N0, eN0⟩ : ∃ N0, N0 = 4294967296 * r := ⟨_, rfl⟩
            obtain ⟨N1, eN1⟩ : ∃ N1, N1 = N0 + c0 := ⟨_, rfl⟩
            obtain ⟨r2, er2⟩ : ∃ r2, r2 = r + y1 := ⟨_, rfl⟩
            obtain ⟨p, ep⟩ : ∃ p, p = q - 1 := ⟨_, rfl⟩
            have f1 : IntKind.u64.wrap ((q : Int) * (y0 : Int)) = (P : Int) := by rw [Mul64.mulN, ← eP]; exact Mul64.wrapN _ (by omega)
            have f2 : IntKind.u64.wrap (4294967296 * (r : Int)) = (N0 : Int) := by rw [IntKind.wrap_u64]; omega
            have f3 : IntKind.u64.wrap ((N0 : Int) + (c0 : Int)) = (N1 : Int) := by rw [IntKind.wrap_u64]; omega
            have f5 : IntKind.u64.wrap ((r : Int) + (y1 : Int)) = (r2 : Int) := by rw [IntKind.wrap_u64]; omega
            by_cases hA : 4294967296 ≤ q
            · have hA' : (4294967296 : Int) ≤ (q : Int) := by omega
              obtain ⟨p0, D', pB⟩ := di_step D hR1 hc0 (Or.inl hA)
              rw [← ep, ← er2] at D'
              rw [← ep] at pB
              have f4 : IntKind.u64.wrap ((q : Int) - 1) = (p : Int) := by rw [IntKind.wrap_u64]; omega
              by_cases hE : 4294967296 ≤ r2
              · have hE' : (4294967296 : Int) ≤ (r2 : Int) := by omega
                obtain ⟨hq, -⟩ := di_done D' (di_break hy0 pB hE)
                clear D' pB hE p0
                rw [hyy] at hq
                have k3 := HE.out.2.2 _ hq.symm
                obtain ⟨k4, k5⟩ := K2.out _ hq.symm
                clear hyy hy0 hy1b hc1 hc0 hU hr1 hR1 hr2 D1 D2 hup hqy hqb eP eN0 eN1 er2 ep hA D hr
                clear hq
                go_wp2_with fail
                go_ret2
                exact ⟨rfl, lay_ex w []⟩
              · have hE' : ¬ (4294967296 : Int) ≤ (r2 : Int) := by omega
                have hm : p < q := by omega
                have HK := Lib.hid (And.intro D' (And.intro hm (Nat.lt_of_not_le hE)))
                clear hyy hy0 hy1b hc1 hc0 hU hr1 hR1 hr2 D1 D2 hup hqy hqb eP eN0 eN1 er2 ep hA D hr
                clear D' pB hE hm p0
                go_wp2_with fail
                go_roundw
                case rel => exact ⟨p, r2, rfl, rfl, by first | trivial | rfl, HK.out.1, HK.out.2.2⟩
                case measure =>
                  have := HK.out.2.1
                  simp only [intOf]
                  omega
            · have hA' : ¬ (4294967296 : Int) ≤ (q : Int) := by omega
              by_cases hB : N1 < P
              · have hB' : (N1 : Int) < (P : Int) := Int.ofNat_lt.2 hB
                obtain ⟨p0, D', pB⟩ := di_step D hR1 hc0 (Or.inr (by rw [← eP]; omega))
                clear hB
                rw [← ep, ← er2] at D'
                rw [← ep] at pB
                have f4 : IntKind.u64.wrap ((q : Int) - 1) = (p : Int) := by rw [IntKind.wrap_u64]; omega
                by_cases hE : 4294967296 ≤ r2
                · have hE' : (4294967296 : Int) ≤ (r2 : Int) := by omega
                  obtain ⟨hq, -⟩ := di_done D' (di_break hy0 pB hE)
                  clear D' pB hE p0
                  rw [hyy] at hq
                  have k3 := HE.out.2.2 _ hq.symm
                  obtain ⟨k4, k5⟩ := K2.out _ hq.symm
                  clear hyy hy0 hy1b hc1 hc0 hU hr1 hR1 hr2 D1 D2 hup hqy hqb eP eN0 eN1 er2 ep hA D hr
                  clear hq
                  go_wp2_with fail
                  go_ret2
                  exact ⟨rfl, lay_ex w []⟩
                · have hE' : ¬ (4294967296 : Int) ≤ (r2 : Int) := by omega
                  have hm : p < q := by omega
                  have HK := Lib.hid (And.intro D' (And.intro hm (Nat.lt_of_not_le hE)))
                  clear hyy hy0 hy1b hc1 hc0 hU hr1 hR1 hr2 D1 D2 hup hqy hqb eP eN0 eN1 er2 ep hA D hr
                  clear D' pB hE hm p0
                  go_wp2_with fail
                  go_roundw
                  case rel => exact ⟨p, r2, rfl, rfl, by first | trivial | rfl, HK.out.1, HK.out.2.2⟩
                  case measure =>
                    have := HK.out.2.1
                    simp only [intOf]
                    omega
              · have hB' : ¬ (N1 : Int) < (P : Int) := fun h => hB (Int.ofNat_lt.1 h)
                obtain ⟨hq, -⟩ := di_done D (by rw [← eP]; omega)
                clear hB
                rw [hyy] at hq
                have k3 := HE.out.2.2 _ hq.symm
                obtain ⟨k4, k5⟩ := K2.out _ hq.symm
                clear hyy hy0 hy1b hc1 hc0 hU hr1 hR1 hr2 D1 D2 hup hqy hqb eP eN0 eN1 er2 ep hA D hr
                clear hq
                go_wp2_with fail
                go_ret2
                exact ⟨rfl, lay_ex w []⟩
theorem div64 (hi lo y : Nat) (hhi : hi < y) (hlo : lo < 18446744073709551616) (hy : y < 18446744073709551616) (w : World) :
    Calls Tryz.prog 80 #[.int .u64 (hi : Int), .int .u64 (lo : Int), .int .u64 (y : Int)] w fun e w' =>
      e = .returned (.tuple #[.int .u64 (((hi * 18446744073709551616 + lo) / y : Nat) : Int), .int .u64 (((hi * 18446744073709551616 + lo) % y : Nat) : Int)]) ∧ ∃ d, w' = bw w d :=
  div64' hi lo y _ _ rfl rfl hhi hlo hy w
end Go.Proofs.YtnnmfdeeicpdlaaGreat
/- Quotients of numbers of four words by a word. -/
namespace Go.Proofs.YtnnmfdeeicpdlaaGreat
open Go.RowKit

theorem valB_snoc {B x : Nat} : ∀ {l : List Nat}, valB B (l ++ [x]) = valB B l * B + x
  | [] => by simp [valB]
  | y :: l => by
    have ih := valB_snoc (B := B) (x := x) (l := l)
    simp only [List.cons_append, valB, ih, List.length_append, List.length_cons, List.length_nil, Nat.pow_succ]
    grind
theorem valB_take {B : Nat} {l : List Nat} {k : Nat} (h : k < l.length) : valB B (l.take (k + 1)) = valB B (l.take k) * B + nt l k := by
  rw [List.take_add_one, nt_lt h]
  exact valB_snoc
theorem take_set {l : List Nat} {i x : Nat} : (l.set i x).take i = l.take i := List.take_set_of_le (Nat.le_refl i)
theorem div_word {B t x d : Nat} (ht : t < d) (hx : x < B) : (t * B + x) / d < B := by
  rw [Nat.div_lt_iff_lt_mul (by omega)]
  have h1 : (t + 1) * B ≤ d * B := Nat.mul_le_mul_right _ ht
  rw [Nat.mul_comm B d]
  rw [Nat.succ_mul] at h1
  generalize d * B = D at *
  generalize t * B = T at *
  omega
structure DivI (a : List Nat) (t0 d : Nat) (r : List Nat) (k t : Nat) : Prop where
  wd : Wd 4 r
  old : ∀ j, k ≤ j → nt r j = nt a j
  td : t < d
  eq : t0 * 18446744073709551616 ^ k + valB 18446744073709551616 (a.take k) = valB 18446744073709551616 (r.take k) * d + t
theorem DivI.start {a : List Nat} {t0 d : Nat} (ha : Wd 4 a) (h : t0 < d) : DivI a t0 d a 0 t0 := ⟨ha, fun _ _ => rfl, h, by simp [valB]⟩
theorem DivI.step {a r : List Nat} {t0 d k t : Nat} (ha : Wd 4 a) (h : DivI a t0 d r k t) (hk : k < 4) : (t * 18446744073709551616 + nt r k) / d < 18446744073709551616 ∧ DivI a t0 d (r.set k ((t * 18446744073709551616 + nt r k) / d)) (k + 1) ((t * 18446744073709551616 + nt r k) % d) := by
  have hd : 0 < d := Nat.lt_of_le_of_lt (Nat.zero_le _) h.td
  have hx := h.wd.lt k
  have hq := div_word h.td hx
  refine ⟨hq, h.wd.set hk hq, fun j hj => ?_, Nat.mod_lt _ hd, ?_⟩
  · rw [nt_set (by rw [h.wd.len]; exact hk), if_neg (by omega)]
    exact h.old j (by omega)
  · rw [valB_take (by rw [ha.len]; exact hk), valB_take (by rw [List.length_set, h.wd.len]; exact hk), take_set, nt_set (by rw [h.wd.len]; exact hk), if_pos rfl, ← h.old k (Nat.le_refl k), Nat.pow_succ]
    have he := h.eq
    have hm := Nat.div_add_mod (t * 18446744073709551616 + nt r k) d
    generalize (t * 18446744073709551616 + nt r k) / d = q at *
    generalize (t * 18446744073709551616 + nt r k) % d = m at *
    generalize 18446744073709551616 ^ k = P at *
    generalize (18446744073709551616 : Nat) = B at *
    generalize valB B (a.take k) = A at *
    generalize valB B (r.take k) = R at *
    have e2 : (t0 * P + A) * B = (R * d + t) * B := by rw [he]
    grind
theorem DivI.done {a r : List Nat} {t0 d t : Nat} (ha : Wd 4 a) (h : DivI a t0 d r 4 t) : val4 r = (t0 * 18446744073709551616 ^ 4 + val4 a) / d := by
  have he := h.eq
  rw [List.take_of_length_le (by rw [ha.len]; exact Nat.le_refl 4), List.take_of_length_le (by rw [h.wd.len]; exact Nat.le_refl 4)] at he
  change t0 * 18446744073709551616 ^ 4 + val4 a = val4 r * d + t at he
  rw [he]
  have htd := h.td
  generalize val4 r = R at *
  rw [Nat.add_comm, Nat.add_mul_div_right _ _ (by omega), Nat.div_eq_of_lt htd, Nat.zero_add]

set_option maxHeartbeats 1000000 in
set_option maxRecDepth 100000 in
theorem nm_div (a : List Nat) (t0 dv : Nat) (ha : Wd 4 a) (ht : t0 < dv) (hd : dv < 18446744073709551616) (w : World) :
    Calls Tryz.prog 321 #[nuV a, .int .u64 (t0 : Int), .int .u64 (dv : Int)] w fun e w' => ∃ r d, e = .returned (nuV r) ∧ w' = bw w d ∧ Wd 4 r ∧ val4 r = (t0 * 18446744073709551616 ^ 4 + val4 a) / dv := by
  refine lay_start ?_
  unfold nuV
  go_enter Tryz.func321, Tryz.ntmps321
  go_wp2_with fail
  rw [← nuA_four ha.len]
  go_loopw [1, 8] (fun v1 v8 wr => ∃ (k t : Nat) (r : List Nat) (d : Ext), k ≤ 4 ∧ v1 = .int .u64 (t : Int) ∧ v8 = .int .i64 (k : Int) ∧ wr = lay w [.inr d, .inl (.cells #[.int .u64 0, .int .u64 0, .int .u64 0, .int .u64 0] 265 (0, 0)), .inl (.cells (nuA r) 265 (0, 0))] ∧ DivI a t0 dv r k t) (fun _ v8 _ => 4 - (intOf v8).toNat)
  case atStart => exact ⟨0, t0, a, noExt _, by omega, rfl, rfl, (bw_noExt _).symm, DivI.start ha ht⟩
  case round =>
    obtain ⟨k, t, r, d, hk, rfl, rfl, rfl, hS⟩ := hrel
    have HS := Lib.hid hS
    by_cases hk4 : k = 4
    · subst hk4
      have g0 := nuA_get (l := r) (i := 0) (by rw [hS.wd.len]; decide)
      have g1 := nuA_get (l := r) (i := 1) (by rw [hS.wd.len]; decide)
      have g2 := nuA_get (l := r) (i := 2) (by rw [hS.wd.len]; decide)
      have g3 := nuA_get (l := r) (i := 3) (by rw [hS.wd.len]; decide)
      clear hS
      go_wp2_with fail
      obtain ⟨dz, ez⟩ := lay_all w [.inr d, .inl (.cells #[.int .u64 (nt r 0 : Int), .int .u64 (nt r 1 : Int), .int .u64 (nt r 2 : Int), .int .u64 (nt r 3 : Int)] 265 (0, 0)), .inl (.cells (nuA r) 265 (0, 0))]
      exact bodyPost_ret (v := .agg #[.int .u64 (nt r 0 : Int), .int .u64 (nt r 1 : Int), .int .u64 (nt r 2 : Int), .int .u64 (nt r 3 : Int)]) (by simp [results, Tryz.results321, go_sem]) rfl ⟨r, dz, rfl, ez, HS.out.wd, HS.out.done ha⟩
    · have hi : k < 4 := by omega
      have x0 : (0 : Int) ≤ (k : Int) := by omega
      have x1 : (k : Int) < 4 := by omega
      have x2 : (k : Int).toNat = k := by omega
      obtain ⟨hq, hN⟩ := hS.step ha hi
      obtain ⟨X, hX⟩ : ∃ X, nt r k = X := ⟨_, rfl⟩
      have g0 := nuA_get (l := r) (i := k) (by rw [hS.wd.len]; exact hi)
      have HC := Lib.hid (fun W => div64 t X dv hS.td (by rw [← hX]; exact hS.wd.lt k) hd W)
      rw [hX] at g0 hN hq
      obtain ⟨Q, hQ⟩ : ∃ Q, (t * 18446744073709551616 + X) / dv = Q := ⟨_, rfl⟩
      obtain ⟨T, hT⟩ : ∃ T, (t * 18446744073709551616 + X) % dv = T := ⟨_, rfl⟩
      rw [hQ, hT] at hN HC
      have HN := Lib.hid hN
      clear hS hN hQ hT hX hq
      go_wp2_with (go_at_call 80; refine (HC.out _).mono ?_; rintro e w' ⟨rfl, d1, rfl⟩)
      rw [nuA_set]
      obtain ⟨d3, e3⟩ := lay_fold w [.inr d1, .inr d] [.inl (.cells #[.int .u64 0, .int .u64 0, .int .u64 0, .int .u64 0] 265 (0, 0)), .inl (.cells (nuA (r.set k Q)) 265 (0, 0))]
      change lay w [.inr d1, .inr d, .inl (.cells #[.int .u64 0, .int .u64 0, .int .u64 0, .int .u64 0] 265 (0, 0)), .inl (.cells (nuA (r.set k Q)) 265 (0, 0))] = _ at e3
      rw [e3]
      clear e3
      go_roundw
      case rel => exact ⟨k + 1, T, r.set k Q, d3, by omega, rfl, by first | rfl | exact congrArg (Value.int .i64) (by omega), rfl, HN.out⟩
      case measure => simp [intOf]; omega
end Go.Proofs.YtnnmfdeeicpdlaaGreat
/- The Taylor series of the sine and the cosine in nested form, and sums that are rounded at every step. No program in sight. -/
namespace Go.Proofs.YtnnmfdeeicpdlaaGreat

theorem rmul {a b c d : Rat} (h1 : 0 ≤ a) (h2 : a ≤ b) (h3 : 0 ≤ c) (h4 : c ≤ d) : a * c ≤ b * d :=
  Rat.le_trans (Rat.mul_le_mul_of_nonneg_left h4 h1) (Rat.mul_le_mul_of_nonneg_right h2 (Rat.le_trans h3 h4))
theorem rmul0 {a c : Rat} (h1 : 0 ≤ a) (h3 : 0 ≤ c) : 0 ≤ a * c := Rat.mul_nonneg h1 h3
def Nr (a b e : Rat) : Prop := a ≤ b + e ∧ b ≤ a + e
theorem Nr.symm {a b e : Rat} (h : Nr a b e) : Nr b a e := ⟨h.2, h.1⟩
theorem Nr.trans {a b c e f : Rat} (h : Nr a b e) (g : Nr b c f) : Nr a c (e + f) := by
  obtain ⟨h1, h2⟩ := h; obtain ⟨g1, g2⟩ := g; constructor <;> grind
theorem Nr.le {a b e f : Rat} (h : Nr a b e) (g : e ≤ f) : Nr a b f := by
  obtain ⟨h1, h2⟩ := h; constructor <;> grind
theorem Nr.add {a b c d e f : Rat} (h : Nr a b e) (g : Nr c d f) : Nr (a + c) (b + d) (e + f) := by
  obtain ⟨h1, h2⟩ := h; obtain ⟨g1, g2⟩ := g; constructor <;> grind
theorem Nr.sub {a b c d e f : Rat} (h : Nr a b e) (g : Nr c d f) : Nr (a - c) (b - d) (e + f) := by
  obtain ⟨h1, h2⟩ := h; obtain ⟨g1, g2⟩ := g; constructor <;> grind
theorem Nr.refl (a : Rat) : Nr a a 0 := by constructor <;> grind
theorem Nr.mulc {a b e c m : Rat} (h : Nr a b e) (h0 : 0 ≤ c) (h1 : c ≤ m) (he : 0 ≤ e) : Nr (c * a) (c * b) (m * e) := by
  obtain ⟨h2, h3⟩ := h
  have g1 := Rat.mul_le_mul_of_nonneg_left h2 h0
  have g2 := Rat.mul_le_mul_of_nonneg_left h3 h0
  have g3 := Rat.mul_le_mul_of_nonneg_right h1 he
  constructor <;> grind
theorem Nr.pos {a b e : Rat} (h : Nr a b e) : 0 ≤ e := by obtain ⟨h1, h2⟩ := h; grind
theorem Nr.mul {a b c d e f m n : Rat} (h : Nr a b e) (g : Nr c d f) (a0 : 0 ≤ a) (a1 : a ≤ m) (d0 : 0 ≤ d) (d1 : d ≤ n) : Nr (a * c) (b * d) (m * f + n * e) := by
  have h1 := (g.mulc a0 a1 g.pos)
  have h2 := (h.mulc d0 d1 h.pos)
  have := h1.trans (show Nr (a * d) (b * d) (n * e) by rw [Rat.mul_comm a, Rat.mul_comm b]; exact h2)
  exact this

def tay (y : Rat) : Nat → Nat → Rat
  | _, 0 => 0
  | d, m + 1 => y / ((d : Rat) * (d + 1)) * (1 - tay y (d + 2) m)
theorem two_le {d : Nat} (h : 1 ≤ d) : (2 : Rat) ≤ (d : Rat) * (d + 1) := by
  have h1 : (1 : Rat) ≤ (d : Rat) := by exact_mod_cast h
  have := rmul (show (0 : Rat) ≤ 1 by decide) h1 (show (0 : Rat) ≤ 2 by decide) (show (2 : Rat) ≤ (d : Rat) + 1 by grind)
  grind
theorem div_ge {y k : Rat} (h0 : 0 ≤ y) (hk : 2 ≤ k) : 0 ≤ y / k ∧ y / k ≤ y / 2 ∧ y / k * k = y := by
  have hk0 : (0 : Rat) < k := by grind
  have e : y / k * k = y := Rat.div_mul_cancel (by grind)
  have hn : 0 ≤ y / k := by
    rw [Rat.div_def]
    exact rmul0 h0 (Rat.le_of_lt (Rat.inv_pos.2 hk0))
  refine ⟨hn, ?_, e⟩
  have := Rat.mul_le_mul_of_nonneg_left hk hn
  grind
theorem tay_in {y : Rat} (h0 : 0 ≤ y) (h1 : y ≤ 1) : ∀ {m d : Nat}, 1 ≤ d → 0 ≤ tay y d m ∧ tay y d m ≤ y / 2
  | 0, d, hd => by unfold tay; constructor <;> grind
  | m + 1, d, hd => by
    obtain ⟨a, b⟩ := tay_in h0 h1 (m := m) (d := d + 2) (by omega)
    obtain ⟨q0, q1, -⟩ := div_ge h0 (two_le hd)
    unfold tay
    have h2 : (0 : Rat) ≤ 1 - tay y (d + 2) m := by grind
    refine ⟨rmul0 q0 h2, ?_⟩
    have := rmul q0 q1 h2 (show 1 - tay y (d + 2) m ≤ 1 by grind)
    grind
def facT : Nat → Nat → Nat
  | _, 0 => 1
  | d, m + 1 => d * (d + 1) * facT (d + 2) m
theorem facT_pos : ∀ {m d : Nat}, 1 ≤ d → 1 ≤ facT d m
  | 0, _, _ => Nat.le_refl _
  | m + 1, d, hd => by
    unfold facT
    have := facT_pos (m := m) (d := d + 2) (by omega)
    exact Nat.mul_pos (Nat.mul_pos (by omega) (by omega)) this
theorem tay_more {y : Rat} (h0 : 0 ≤ y) (h1 : y ≤ 1) (j : Nat) : ∀ {m d : Nat}, 1 ≤ d → Nr (tay y d (m + j)) (tay y d m) (1 / (2 * (facT d m : Rat)))
  | 0, d, hd => by
    obtain ⟨a, b⟩ := tay_in h0 h1 (m := j) hd
    rw [Nat.zero_add]
    show Nr _ 0 (1 / (2 * ((1 : Nat) : Rat)))
    have : (1 : Rat) / (2 * ((1 : Nat) : Rat)) = 1 / 2 := by simp
    rw [this]
    constructor <;> grind
  | m + 1, d, hd => by
    have ih := tay_more h0 h1 j (m := m) (d := d + 2) (by omega)
    obtain ⟨q0, q1, q2⟩ := div_ge h0 (two_le hd)
    have hf := facT_pos (m := m) (d := d + 2) (by omega)
    have hf2 : (1 : Rat) ≤ (facT (d + 2) m : Rat) := by exact_mod_cast hf
    obtain ⟨r0, r1, r2⟩ := div_ge (show (0 : Rat) ≤ 1 by decide) (two_le hd)
    rw [show m + 1 + j = m + j + 1 by omega]
    unfold tay facT
    have h2 : Nr (1 - tay y (d + 2) (m + j)) (1 - tay y (d + 2) m) (1 / (2 * (facT (d + 2) m : Rat))) := by
      have := (Nr.refl 1).sub ih
      exact this.le (by grind)
    have hy : y / ((d : Rat) * (d + 1)) ≤ 1 / ((d : Rat) * (d + 1)) := by
      rw [Rat.div_def, Rat.div_def]
      exact Rat.mul_le_mul_of_nonneg_right h1 (by rw [← Rat.one_mul (_)⁻¹, ← Rat.div_def]; exact r0)
    have h3 := h2.mulc q0 hy h2.pos
    refine h3.le ?_
    have e1 : ((d * (d + 1) * facT (d + 2) m : Nat) : Rat) = (d : Rat) * (d + 1) * (facT (d + 2) m : Rat) := by push_cast; rfl
    rw [e1]
    have := two_le hd
    grind
theorem tay_arg {y z e : Rat} (h0 : 0 ≤ y) (h1 : y ≤ 1) (z0 : 0 ≤ z) (z1 : z ≤ 1) (h : Nr y z e) : ∀ {m d : Nat}, 1 ≤ d → Nr (tay y d m) (tay z d m) e
  | 0, d, hd => by
    have := h.pos
    unfold tay; constructor <;> grind
  | m + 1, d, hd => by
    have ih := tay_arg h0 h1 z0 z1 h (m := m) (d := d + 2) (by omega)
    obtain ⟨a, b⟩ := tay_in z0 z1 (m := m) (d := d + 2) (by omega)
    obtain ⟨q0, q1, q2⟩ := div_ge h0 (two_le hd)
    obtain ⟨r0, r1, r2⟩ := div_ge (show (0 : Rat) ≤ 1 by decide) (two_le hd)
    have he := h.pos
    unfold tay
    have hq : Nr (y / ((d : Rat) * (d + 1))) (z / ((d : Rat) * (d + 1))) (e / 2) := by
      have := h.mulc r0 r1 he
      rw [Rat.div_def, Rat.div_def, Rat.mul_comm y, Rat.mul_comm z]
      rw [Rat.div_def, Rat.one_mul] at this
      exact this.le (by grind)
    have h2 : Nr (1 - tay y (d + 2) m) (1 - tay z (d + 2) m) e := ((Nr.refl 1).sub ih).le (by grind)
    have := hq.mul h2 q0 q1 (show 0 ≤ 1 - tay z (d + 2) m by grind) (show 1 - tay z (d + 2) m ≤ 1 by grind)
    refine this.le ?_
    have := Rat.mul_le_mul_of_nonneg_right h1 he
    grind
end Go.Proofs.YtnnmfdeeicpdlaaGreat
/- The addition theorem for the step of one unit, by polynomials with integer coefficients. No program in sight. -/
namespace Go.Proofs.YtnnmfdeeicpdlaaGreat

def evI : List Int → Int → Int
  | [], _ => 0
  | a :: l, x => a + x * evI l x
def scI (k : Int) : List Int → List Int
  | [] => []
  | a :: l => k * a :: scI k l
def adI : List Int → List Int → List Int
  | [], m => m
  | a :: l, [] => a :: l
  | a :: l, b :: m => (a + b) :: adI l m
def shI : List Int → List Int
  | [] => []
  | a :: l => adI (a :: shI l) (shI l)
def inI : List Int → List Int
  | [] => []
  | a :: l => a :: 0 :: inI l
def abI : List Int → Nat → Nat
  | [], _ => 0
  | a :: l, N => a.natAbs + N * abI l N
theorem evI_sc (k x : Int) : ∀ l, evI (scI k l) x = k * evI l x
  | [] => by simp [scI, evI]
  | a :: l => by
    have := evI_sc k x l
    simp only [scI, evI, this]; grind
theorem evI_ad (x : Int) : ∀ l m, evI (adI l m) x = evI l x + evI m x
  | [], m => by simp [adI, evI]
  | a :: l, [] => by simp [adI, evI]
  | a :: l, b :: m => by
    have := evI_ad x l m
    simp only [adI, evI, this]; grind
theorem evI_sh (x : Int) : ∀ l, evI (shI l) x = evI l (x + 1)
  | [] => by simp [shI, evI]
  | a :: l => by
    have := evI_sh x l
    simp only [shI, evI, evI_ad, this]; grind
theorem evI_in (x : Int) : ∀ l, evI (inI l) x = evI l (x * x)
  | [] => by simp [inI, evI]
  | a :: l => by
    have := evI_in x l
    simp only [inI, evI, this]; grind
theorem evI_ab {N : Nat} {x : Int} (h : x.natAbs ≤ N) : ∀ l, (evI l x).natAbs ≤ abI l N
  | [] => by simp [evI, abI]
  | a :: l => by
    have ih := evI_ab h l
    have h1 : (x * evI l x).natAbs ≤ N * abI l N := by rw [Int.natAbs_mul]; exact Nat.mul_le_mul h ih
    simp only [evI, abI]
    omega
def dnT (b : Nat) : Nat → Nat → Nat
  | _, 0 => 1
  | d, m + 1 => b * (d * (d + 1)) * dnT b (d + 2) m
def liT (a b : Nat) : Nat → Nat → List Int
  | _, 0 => []
  | d, m + 1 => 0 :: scI a (adI [(dnT b (d + 2) m : Int)] (scI (-1) (liT a b (d + 2) m)))
theorem liT_ok {a b : Nat} (hb : b ≠ 0) {z : Int} : ∀ {m d : Nat}, 1 ≤ d → tay ((z : Rat) * (a : Rat) / (b : Rat)) d m * (dnT b d m : Rat) = ((evI (liT a b d m) z : Int) : Rat)
  | 0, d, hd => by unfold tay liT; simp [evI]
  | m + 1, d, hd => by
    have ih := liT_ok (a := a) hb (z := z) (m := m) (d := d + 2) (by omega)
    have h2 := two_le hd
    have hb2 : (b : Rat) ≠ 0 := by exact_mod_cast hb
    simp only [tay, liT, dnT, evI, evI_sc, evI_ad]
    push_cast
    rw [← ih]
    generalize tay _ (d + 2) m = T
    generalize (dnT b (d + 2) m : Rat) = F
    grind
def piN : Nat := 363771576891766324280234942777729862653393377328392429958772151117938894466185
def piD : Nat := 115792089237316195423570985008687907853269984665640564039457584007913129639936 * 10800000
def xi (n : Nat) : Rat := (n : Rat) * ((piN : Rat) / (piD : Rat))
def sinT (n : Nat) : Rat := xi n * (1 - tay (xi n * xi n) 2 14)
def cosT (n : Nat) : Rat := 1 - tay (xi n * xi n) 1 14
def litA : List Int := adI [(dnT (piD * piD) 2 14 : Int)] (scI (-1) (liT (piN * piN) (piD * piD) 2 14))
def litB : List Int := adI [(dnT (piD * piD) 1 14 : Int)] (scI (-1) (liT (piN * piN) (piD * piD) 1 14))
def facW : Nat := piD * dnT (piD * piD) 2 14 * dnT (piD * piD) 1 14
def lisS : List Int := scI (dnT (piD * piD) 1 14 : Int) (0 :: inI (scI (piN : Int) litA))
def lisC : List Int := scI ((piD * dnT (piD * piD) 2 14 : Nat) : Int) (inI litB)
theorem piD_ne : piD ≠ 0 := by decide +kernel
section
variable {a b : Nat}
theorem xi_sq (hb : b ≠ 0) (n : Nat) : (n : Rat) * ((a : Rat) / (b : Rat)) * ((n : Rat) * ((a : Rat) / (b : Rat))) = (((n * n : Nat) : Int) : Rat) * ((a * a : Nat) : Rat) / ((b * b : Nat) : Rat) := by
  have hb2 : (b : Rat) ≠ 0 := by exact_mod_cast hb
  push_cast
  grind
theorem lis_ok (hb : b ≠ 0) (n d m : Nat) (hd : 1 ≤ d) : (1 - tay ((n : Rat) * ((a : Rat) / (b : Rat)) * ((n : Rat) * ((a : Rat) / (b : Rat)))) d m) * (dnT (b * b) d m : Rat) = ((evI (adI [(dnT (b * b) d m : Int)] (scI (-1) (liT (a * a) (b * b) d m))) ((n * n : Nat) : Int) : Int) : Rat) := by
  have h := liT_ok (a := a * a) (b := b * b) (Nat.mul_ne_zero hb hb) (z := ((n * n : Nat) : Int)) (m := m) hd
  rw [xi_sq hb n, evI_ad, evI_sc]
  generalize tay _ d m = T at *
  simp only [evI]
  push_cast at h ⊢
  rw [← h]
  grind
end
theorem lisS_ok (n : Nat) : sinT n * (facW : Rat) = ((evI lisS (n : Int) : Int) : Rat) := by
  have h := lis_ok (a := piN) piD_ne n 2 14 (by decide)
  have hp : (piD : Rat) ≠ 0 := by exact_mod_cast piD_ne
  unfold sinT lisS facW xi litA
  simp only [evI_sc, evI, evI_in]
  rw [show ((n : Int) * (n : Int)) = ((n * n : Nat) : Int) by push_cast; rfl]
  push_cast at h ⊢
  rw [← h]
  generalize tay _ 2 14 = T
  generalize (dnT _ 2 14 : Rat) = F
  generalize (dnT _ 1 14 : Rat) = G
  generalize (piN : Rat) = A at *
  generalize (piD : Rat) = B at *
  grind
theorem lisC_ok (n : Nat) : cosT n * (facW : Rat) = ((evI lisC (n : Int) : Int) : Rat) := by
  have h := lis_ok (a := piN) piD_ne n 1 14 (by decide)
  unfold cosT lisC facW xi litB
  simp only [evI_sc, evI_in]
  rw [show ((n : Int) * (n : Int)) = ((n * n : Nat) : Int) by push_cast; rfl]
  push_cast at h ⊢
  rw [← h]
  generalize tay _ 1 14 = T
  generalize (dnT _ 2 14 : Rat) = F
  generalize (dnT _ 1 14 : Rat) = G
  generalize (piD : Rat) = B at *
  grind
theorem nr_of_int {a b W E : Rat} (hW : 0 < W) {x : Int} {M : Nat} (h : (a - b) * W = (x : Rat)) (hx : x.natAbs ≤ M) (hM : (M : Rat) ≤ E * W) : Nr a b E := by
  have h1 : (x : Rat) ≤ (M : Rat) := by
    have : x ≤ (M : Int) := by omega
    exact_mod_cast this
  have h2 : -(x : Rat) ≤ (M : Rat) := by
    have : -x ≤ (M : Int) := by omega
    exact_mod_cast this
  constructor
  · refine Rat.le_of_mul_le_mul_right (c := W) ?_ hW
    grind
  · refine Rat.le_of_mul_le_mul_right (c := W) ?_ hW
    grind
def stpS : List Int := adI (scI (facW : Int) (shI lisS)) (adI (scI (-(evI lisC 1)) lisS) (scI (-(evI lisS 1)) lisC))
def stpC : List Int := adI (scI (facW : Int) (shI lisC)) (adI (scI (-(evI lisC 1)) lisC) (scI (evI lisS 1) lisS))
theorem stpS_ab : abI stpS 2700000 * 1267650600228229401496703205376 ≤ facW * facW := by decide +kernel
theorem stpC_ab : abI stpC 2700000 * 1267650600228229401496703205376 ≤ facW * facW := by decide +kernel
theorem facW_pos : 0 < facW := by decide +kernel
theorem midS_ab : (evI lisS 2700000 - evI lisC 2700000).natAbs * 1267650600228229401496703205376 ≤ facW := by decide +kernel
def eps : Rat := 1 / 1267650600228229401496703205376
theorem eps_of {M W : Nat} (h : M * 1267650600228229401496703205376 ≤ W) : (M : Rat) ≤ eps * (W : Rat) := by
  have : (M : Rat) * 1267650600228229401496703205376 ≤ (W : Rat) := by exact_mod_cast h
  unfold eps
  grind
theorem facW_rat : (0 : Rat) < (facW : Rat) := by exact_mod_cast facW_pos
theorem sin_step {n : Nat} (h : n ≤ 2700000) : Nr (sinT (n + 1)) (sinT n * cosT 1 + cosT n * sinT 1) eps := by
  have h1 := lisS_ok (n + 1)
  have h2 := lisS_ok n
  have h3 := lisC_ok n
  have h4 := lisS_ok 1
  have h5 := lisC_ok 1
  have hb := Nat.le_trans (Nat.mul_le_mul_right _ (evI_ab (x := (n : Int)) (N := 2700000) (by omega) stpS)) stpS_ab
  have hW := facW_rat
  refine nr_of_int (W := (facW : Rat) * facW) (x := evI stpS (n : Int)) (Rat.mul_pos hW hW) ?_ (Nat.le_refl _) (by have := eps_of hb; push_cast at this; exact this)
  unfold stpS
  simp only [evI_ad, evI_sc, evI_sh]
  push_cast at h1 h2 h3 h4 h5 ⊢
  rw [← h1, ← h2, ← h3, ← h4, ← h5]
  grind
theorem cos_step {n : Nat} (h : n ≤ 2700000) : Nr (cosT (n + 1)) (cosT n * cosT 1 - sinT n * sinT 1) eps := by
  have h1 := lisC_ok (n + 1)
  have h2 := lisS_ok n
  have h3 := lisC_ok n
  have h4 := lisS_ok 1
  have h5 := lisC_ok 1
  have hb := Nat.le_trans (Nat.mul_le_mul_right _ (evI_ab (x := (n : Int)) (N := 2700000) (by omega) stpC)) stpC_ab
  have hW := facW_rat
  refine nr_of_int (W := (facW : Rat) * facW) (x := evI stpC (n : Int)) (Rat.mul_pos hW hW) ?_ (Nat.le_refl _) (by have := eps_of hb; push_cast at this; exact this)
  unfold stpC
  simp only [evI_ad, evI_sc, evI_sh]
  push_cast at h1 h2 h3 h4 h5 ⊢
  rw [← h1, ← h2, ← h3, ← h4, ← h5]
  grind
theorem sin_mid : Nr (sinT 2700000) (cosT 2700000) eps := by
  have h2 : sinT 2700000 * (facW : Rat) = ((evI lisS 2700000 : Int) : Rat) := lisS_ok 2700000
  have h3 : cosT 2700000 * (facW : Rat) = ((evI lisC 2700000 : Int) : Rat) := lisC_ok 2700000
  refine nr_of_int (W := (facW : Rat)) (x := evI lisS 2700000 - evI lisC 2700000) facW_rat ?_ (Nat.le_refl _) (eps_of midS_ab)
  rw [show (sinT 2700000 - cosT 2700000) * (facW : Rat) = sinT 2700000 * (facW : Rat) - cosT 2700000 * (facW : Rat) by grind, h2, h3]
  generalize evI lisS 2700000 = u
  generalize evI lisC 2700000 = v
  push_cast
  rfl
end Go.Proofs.YtnnmfdeeicpdlaaGreat
/- An angle in radians, as a number of four words. -/
namespace Go.Proofs.YtnnmfdeeicpdlaaGreat
open Go.RowKit

def piL : List Nat := [2611923443488327891, 1376283091369227076, 11820040416388919760, 589684135938649225]
theorem piL_wd : Wd 4 piL := ⟨rfl, fun i => by
  unfold piL nt
  match i with
  | 0 => decide
  | 1 => decide
  | 2 => decide
  | 3 => decide
  | i + 4 => simp⟩
structure MulI (p : List Nat) (n : Nat) (r : List Nat) (k t : Nat) : Prop where
  wd : Wd 4 r
  old : ∀ j, j < k → nt r j = nt p j
  tn : t ≤ n
  eq : valB 18446744073709551616 (r.drop k) + t * 18446744073709551616 ^ (4 - k) = n * valB 18446744073709551616 (p.drop k)
theorem MulI.start {p : List Nat} {n : Nat} (hp : Wd 4 p) : MulI p n p 4 0 := ⟨hp, fun _ _ => rfl, Nat.zero_le _, by
  rw [List.drop_eq_nil_of_le (by rw [hp.len]; exact Nat.le_refl 4)]
  simp [valB]⟩
theorem mul_word {B x n t : Nat} (hx : x < B) (ht : t ≤ n) (hn : n < B) : ∃ hi lo s c : Nat, lo < B ∧ s < B ∧ c ≤ 1 ∧ hi + c < B ∧ x * n / B = hi ∧ x * n % B = lo ∧ (lo + t + 0) % B = s ∧ (lo + t + 0) / B = c ∧ s + (hi + c) * B = x * n + t ∧ hi + c ≤ n := by
  have hB : 0 < B := by omega
  have h1 := Nat.div_add_mod (x * n) B
  have h2 := Nat.mod_lt (x * n) hB
  obtain ⟨s, c, hs, hc, e1, e2, e3⟩ := add_word (x := x * n % B) (y := t) (c := 0) h2 (by omega) (by omega)
  have e4 : s + (x * n / B + c) * B = x * n + t := by
    rw [Nat.add_mul, Nat.mul_comm (x * n / B) B]
    omega
  have hle : x * n / B + c ≤ n := by
    have h5 : (x * n / B + c) * B ≤ x * n + t := by omega
    have h6 : (x + 1) * n ≤ B * n := Nat.mul_le_mul_right _ hx
    rw [Nat.succ_mul] at h6
    have h7 : (x * n / B + c) * B ≤ n * B := by rw [Nat.mul_comm n B]; omega
    exact Nat.le_of_mul_le_mul_right h7 hB
  exact ⟨_, _, s, c, h2, hs, hc, by omega, rfl, rfl, e1, e2, e4, hle⟩
theorem MulI.step {p r : List Nat} {n i t s t' : Nat} (h : MulI p n r (i + 1) t) (hp : Wd 4 p) (hi : i < 4) (hs : s < 18446744073709551616) (ht : t' ≤ n) (e : s + t' * 18446744073709551616 = nt r i * n + t) : MulI p n (r.set i s) i t' := by
  refine ⟨h.wd.set hi hs, fun j hj => by rw [nt_set (by rw [h.wd.len]; exact hi), if_neg (by omega)]; exact h.old j (by omega), ht, ?_⟩
  have he := h.eq
  rw [h.old i (by omega)] at e
  rw [valB_drop (l := r.set i s) (by rw [List.length_set, h.wd.len]; exact hi), valB_drop (l := p) (by rw [hp.len]; exact hi), drop_set, nt_set (by rw [h.wd.len]; exact hi), if_pos rfl, List.length_set, h.wd.len, hp.len]
  rw [show 4 - (i + 1) = 4 - i - 1 by omega] at he
  have hpw : 18446744073709551616 ^ (4 - i) = 18446744073709551616 ^ (4 - i - 1) * 18446744073709551616 := by rw [← Nat.pow_succ]; congr 1; omega
  rw [hpw]
  generalize 18446744073709551616 ^ (4 - i - 1) = P at *
  generalize (18446744073709551616 : Nat) = B at *
  have e2 : (s + t' * B) * P = (nt p i * n + t) * P := by rw [e]
  grind
theorem MulI.done {p r : List Nat} {n t : Nat} (h : MulI p n r 0 t) : val4 r + t * 18446744073709551616 ^ 4 = n * val4 p := by
  have := h.eq
  simpa [val4] using this
theorem piL_val : piN = 3 * 18446744073709551616 ^ 4 + val4 piL := by decide +kernel
theorem piL_lt : val4 piL < 18446744073709551616 ^ 4 := val4_lt piL_wd
theorem rad_top {r : List Nat} {n t : Nat} (hn : n ≤ 2700000) (h : MulI piL n r 0 t) : t + 3 * n < 10800000 ∧ (t + 3 * n) * 18446744073709551616 ^ 4 + val4 r = n * piN := by
  have he := h.done
  have hp := piL_lt
  rw [piL_val]
  generalize 18446744073709551616 ^ 4 = W at *
  generalize val4 piL = p at *
  constructor
  · rcases Nat.eq_zero_or_pos n with h0 | h0
    · have := h.tn; omega
    · have h1 : t * W ≤ n * p := by omega
      have h2 : n * p < n * W := Nat.mul_lt_mul_of_pos_left hp h0
      have h3 : t < n := Nat.lt_of_mul_lt_mul_right (Nat.lt_of_le_of_lt h1 h2)
      omega
  · rw [Nat.add_mul, Nat.mul_add, ← he]
    have : n * (3 * W) = 3 * n * W := by grind
    omega

set_option maxHeartbeats 1000000 in
set_option maxRecDepth 100000 in
theorem tr_radians (n : Nat) (hn : n ≤ 2700000) (w : World) :
    Calls Tryz.prog 279 #[.int .i64 (n : Int)] w fun e w' => ∃ r d, e = .returned (nuV r) ∧ w' = bw w d ∧ Wd 4 r ∧ val4 r = n * piN / 10800000 := by
  refine lay_start ?_
  have k1 : IntKind.u64.wrap (n : Int) = (n : Int) := IntWalk.u64_in _ (by omega)
  unfold nuV
  go_enter Tryz.func279, Tryz.ntmps279
  go_wp2_with fail
  go_loopw [4, 5, 6, 7, 8, 9] (fun v4 v5 _ _ _ _ wr => ∃ (k t : Nat) (r : List Nat) (d : Ext), k ≤ 4 ∧ v4 = .int .u64 (t : Int) ∧ v5 = .int .i64 ((k : Int) - 1) ∧ wr = lay w [.inr d, .inl (.cells (nuA r) 265 (0, 0)), .inl (.cells #[.int .u64 0, .int .u64 0, .int .u64 0, .int .u64 0] 265 (0, 0))] ∧ MulI piL n r k t) (fun _ v5 _ _ _ _ _ => (intOf v5 + 1).toNat)
  case atStart => exact ⟨4, 0, piL, noExt _, Nat.le_refl _, rfl, rfl, (bw_noExt _).symm, MulI.start piL_wd⟩
  case round =>
    obtain ⟨k, t, r, d, hk, rfl, rfl, rfl, hS⟩ := hrel
    have HS := Lib.hid hS
    rcases k with _ | i
    · rw [show ((0 : Nat) : Int) - 1 = -1 from rfl]
      have g0 := nuA_get (l := r) (i := 0) (by rw [hS.wd.len]; decide)
      have g1 := nuA_get (l := r) (i := 1) (by rw [hS.wd.len]; decide)
      have g2 := nuA_get (l := r) (i := 2) (by rw [hS.wd.len]; decide)
      have g3 := nuA_get (l := r) (i := 3) (by rw [hS.wd.len]; decide)
      obtain ⟨q1, q2⟩ := rad_top hn hS
      have HD := Lib.hid (fun W => nm_div r (t + 3 * n) 10800000 hS.wd q1 (by decide) W)
      unfold nuV at HD
      rw [q2] at HD
      have z1 : (t : Int) + 3 * (n : Int) = ((t + 3 * n : Nat) : Int) := by omega
      obtain ⟨T, hT⟩ : ∃ T, t + 3 * n = T := ⟨_, rfl⟩
      rw [hT] at HD q1 z1
      have z2 : IntKind.u64.wrap ((3 : Int) * (n : Int)) = 3 * (n : Int) := IntWalk.u64_in _ (by omega)
      have z3 : IntKind.u64.wrap ((t : Int) + 3 * (n : Int)) = (T : Int) := (IntWalk.u64_in _ (by omega)).trans z1
      have z4 : (T : Int).tmod 10800000 = (T : Int) := by rw [Int.tmod_eq_emod_of_nonneg (by omega)]; omega
      have z5 : IntKind.u64.wrap (T : Int) = (T : Int) := IntWalk.u64_in _ (by omega)
      rw [show ((10800000 : Nat) : Int) = 10800000 from rfl] at HD
      clear hS q2 hT
      go_wp2_with fail
      refine (HD.out _).mono ?_
      rintro e w' ⟨r2, d2, rfl, rfl, hw2, hv2⟩
      have HW2 := Lib.hid (And.intro hw2 hv2)
      clear hw2 hv2
      go_wp2_with fail
      obtain ⟨dz, ez⟩ := lay_all w [.inr d2, .inr d, .inl (.cells (nuA r) 265 (0, 0)), .inl (.cells #[.int .u64 (nt r2 0 : Int), .int .u64 (nt r2 1 : Int), .int .u64 (nt r2 2 : Int), .int .u64 (nt r2 3 : Int)] 265 (0, 0))]
      exact bodyPost_ret (v := .agg #[.int .u64 (nt r2 0 : Int), .int .u64 (nt r2 1 : Int), .int .u64 (nt r2 2 : Int), .int .u64 (nt r2 3 : Int)]) (by simp [results, Tryz.results279, go_sem]) rfl ⟨r2, dz, rfl, ez, HW2.out.1, HW2.out.2⟩
    · rw [show ((i + 1 : Nat) : Int) - 1 = (i : Int) by omega]
      have hi : i < 4 := by omega
      have x0 : (0 : Int) ≤ (i : Int) := by omega
      have x1 : (i : Int) < 4 := by omega
      have x2 : (i : Int).toNat = i := by omega
      obtain ⟨X, hX⟩ : ∃ X, nt r i = X := ⟨_, rfl⟩
      have g0 := nuA_get (l := r) (i := i) (by rw [hS.wd.len]; exact hi)
      rw [hX] at g0
      have hXl : X < 18446744073709551616 := by rw [← hX]; exact hS.wd.lt i
      obtain ⟨HI, LO, SS, CC, hLO, hSS, hCC, hHC, e1, e2, e3, e4, e5, e6⟩ := mul_word (x := X) (n := n) (t := t) hXl hS.tn (by omega)
      have HM := Lib.hid (fun W => Tryz.bits_Mul64 X n hXl (by omega) W)
      rw [e1, e2] at HM
      have hcall : ∀ W, (callFunc 291 #[.int .u64 (LO : Int), .int .u64 (t : Int), .int .u64 0]).run Tryz.prog W = .ok (.value (.tuple #[.int .u64 (SS : Int), .int .u64 (CC : Int)])) W := fun W => by
        have := add64 LO t 0 (by omega) W
        rw [e3, e4] at this
        exact this
      have kHC : IntKind.u64.wrap ((HI : Int) + (CC : Int)) = (HI : Int) + (CC : Int) := IntWalk.u64_in _ (by omega)
      have HN := Lib.hid (hS.step piL_wd hi hSS e6 (by rw [hX]; exact e5))
      clear hS e1 e2 e3 e4 e5 e6 hX hXl
      go_wp2_with (go_at_call 79; refine (HM.out _).mono ?_; rintro e w' ⟨rfl, hw⟩; rw [hw])
      rw [nuA_set]
      go_roundw
      case rel => exact ⟨i, HI + CC, r.set i SS, d, by omega, by first | rfl | exact congrArg (Value.int .u64) (by omega), rfl, rfl, HN.out⟩
      case measure => simp [intOf]
end Go.Proofs.YtnnmfdeeicpdlaaGreat
/- Products of numbers of four words, row by row: the plain law. No walk. -/
namespace Go.Proofs.YtnnmfdeeicpdlaaGreat
open Go.RowKit

theorem valB_set {B x : Nat} : ∀ {l : List Nat} {p : Nat}, p < l.length → valB B (l.set p x) + nt l p * B ^ (l.length - p - 1) = valB B l + x * B ^ (l.length - p - 1)
  | [], p, h => absurd h (Nat.not_lt_zero _)
  | y :: l, 0, _ => by
    simp only [List.set_cons_zero, valB, nt, List.getD_cons_zero, List.length_cons]
    rw [show l.length + 1 - 0 - 1 = l.length by omega]
    omega
  | y :: l, p + 1, h => by
    have ih := valB_set (B := B) (x := x) (l := l) (p := p) (by simpa using h)
    simp only [List.set_cons_succ, valB, nt, List.getD_cons_succ, List.length_cons, List.length_set] at ih ⊢
    rw [show l.length + 1 - (p + 1) - 1 = l.length - p - 1 by omega]
    omega
def rowM (B : Nat) (b : List Nat) (i : Nat) : Nat → Nat
  | 0 => 0
  | m + 1 => (if i + (3 - m) ≤ 4 then nt b (3 - m) * B ^ (4 - i - (3 - m)) else 0) + rowM B b i m
def sumR (B : Nat) (a b : List Nat) : Nat → Nat
  | 0 => 0
  | m + 1 => nt a (3 - m) * rowM B b (3 - m) 4 + sumR B a b m
theorem sumR_le {B : Nat} {a b : List Nat} {m : Nat} : ∀ {n : Nat}, m ≤ n → sumR B a b m ≤ sumR B a b n
  | 0, h => by
    have : m = 0 := by omega
    subst this; exact Nat.le_refl _
  | n + 1, h => by
    by_cases e : m = n + 1
    · subst e; exact Nat.le_refl _
    · have := sumR_le (B := B) (a := a) (b := b) (m := m) (n := n) (by omega)
      show sumR B a b m ≤ nt a (3 - n) * rowM B b (3 - n) 4 + sumR B a b n
      omega
theorem sumR_all {B : Nat} {a b : List Nat} (ha : a.length = 4) (hb : b.length = 4) : sumR B a b 4 * B ^ 2 + (nt a 2 * nt b 3 * B + nt a 3 * nt b 2 * B + nt a 3 * nt b 3) = valB B a * valB B b := by
  match a, b, ha, hb with
  | [a0, a1, a2, a3], [b0, b1, b2, b3], _, _ =>
    simp [sumR, rowM, valB, nt]
    grind
theorem sumR_ok {B : Nat} {a b : List Nat} (ha : a.length = 4) (hb : b.length = 4) (la : ∀ i, nt a i < B) (lb : ∀ i, nt b i < B) : sumR B a b 4 * B ^ 2 ≤ valB B a * valB B b ∧ valB B a * valB B b ≤ sumR B a b 4 * B ^ 2 + 3 * B ^ 3 := by
  have h := sumR_all (B := B) ha hb
  have m : ∀ i j, nt a i * nt b j ≤ B * B := fun i j => Nat.mul_le_mul (Nat.le_of_lt (la i)) (Nat.le_of_lt (lb j))
  have h1 := Nat.mul_le_mul_right B (m 2 3)
  have h2 := Nat.mul_le_mul_right B (m 3 2)
  have h3 := m 3 3
  have hB : 0 < B := Nat.lt_of_le_of_lt (Nat.zero_le _) (la 0)
  have h4 : B * B ≤ B * B * B := Nat.le_mul_of_pos_right _ hB
  have e : B ^ 3 = B * B * B := by grind
  rw [← h, e]
  generalize B * B * B = C at *
  constructor <;> omega
theorem sumR_lt {B : Nat} {a b : List Nat} (ha : a.length = 4) (hb : b.length = 4) (la : ∀ x ∈ a, x < B) (lb : ∀ x ∈ b, x < B) (hB : 0 < B) : sumR B a b 4 < B ^ 6 := by
  have h := sumR_all (B := B) ha hb
  have h1 := valB_lt hB la
  have h2 := valB_lt hB lb
  rw [ha] at h1
  rw [hb] at h2
  have h3 : valB B a * valB B b < B ^ 4 * B ^ 4 := Nat.mul_lt_mul'' h1 h2
  have h4 : B ^ 4 * B ^ 4 = B ^ 6 * B ^ 2 := by rw [← Nat.pow_add, ← Nat.pow_add]
  have h5 : sumR B a b 4 * B ^ 2 < B ^ 6 * B ^ 2 := by rw [← h4]; omega
  exact Nat.lt_of_mul_lt_mul_right h5
theorem row_word {B x y o c : Nat} (hx : x < B) (hy : y < B) (ho : o < B) (hc : c < B) : ∃ hi lo s1 c1 s2 c2 : Nat, x * y / B = hi ∧ x * y % B = lo ∧ (o + lo + 0) % B = s1 ∧ (o + lo + 0) / B = c1 ∧ (s1 + c + 0) % B = s2 ∧ (s1 + c + 0) / B = c2 ∧ c1 ≤ 1 ∧ c2 ≤ 1 ∧ s2 < B ∧ s1 < B ∧ lo < B ∧ hi + c1 + c2 < B ∧ s2 + (hi + c1 + c2) * B = o + x * y + c := by
  have hB : 0 < B := by omega
  have h1 := Nat.div_add_mod (x * y) B
  have h2 := Nat.mod_lt (x * y) hB
  obtain ⟨s1, c1, hs1, hc1, e1, e2, e3⟩ := add_word (x := o) (y := x * y % B) (c := 0) ho h2 (by omega)
  obtain ⟨s2, c2, hs2, hc2, e4, e5, e6⟩ := add_word (x := s1) (y := c) (c := 0) hs1 hc (by omega)
  have e7 : s2 + (x * y / B + c1 + c2) * B = o + x * y + c := by
    rw [Nat.add_mul, Nat.add_mul, Nat.mul_comm (x * y / B) B]
    omega
  refine ⟨_, _, s1, c1, s2, c2, rfl, rfl, e1, e2, e4, e5, hc1, hc2, hs2, hs1, h2, ?_, e7⟩
  have h8 : x * y + x + y + 1 ≤ B * B := by
    have := Nat.mul_le_mul (show x + 1 ≤ B by omega) (show y + 1 ≤ B by omega)
    rw [Nat.succ_mul, Nat.mul_succ] at this
    omega
  have h9 : (x * y / B + c1 + c2) * B < B * B := by
    by_cases hz : x + y + 2 ≤ B + B
    · have : x * y ≤ (B - 1) * (B - 1) := Nat.mul_le_mul (by omega) (by omega)
      have h10 : (B - 1) * (B - 1) + (B - 1) + (B - 1) + 1 = B * B := by
        obtain ⟨k, rfl⟩ : ∃ k, B = k + 1 := ⟨B - 1, by omega⟩
        simp only [Nat.add_sub_cancel]
        grind
      omega
    · omega
  exact Nat.lt_of_mul_lt_mul_right h9
structure RowI (a b : List Nat) (i V0 : Nat) (o : List Nat) (k c : Nat) : Prop where
  wd : Wd 6 o
  cB : c < 18446744073709551616
  c0 : 5 < i + k → c = 0
  eq : valB 18446744073709551616 o + c * 18446744073709551616 ^ (5 - (i + k)) = V0 + nt a i * rowM 18446744073709551616 b i (4 - k)
theorem RowI.start {a b o : List Nat} {i : Nat} (h : Wd 6 o) : RowI a b i (valB 18446744073709551616 o) o 4 0 := ⟨h, by decide, fun _ => rfl, by simp [rowM]⟩
theorem RowI.skip {a b o : List Nat} {i V0 j c : Nat} (h : RowI a b i V0 o (j + 1) c) (hj : j < 4) (hs : 4 < i + j) : RowI a b i V0 o j c := by
  have hc := h.c0 (by omega)
  subst hc
  refine ⟨h.wd, by decide, fun _ => rfl, ?_⟩
  have he := h.eq
  rw [show 4 - j = 4 - (j + 1) + 1 by omega]
  unfold rowM
  rw [show 3 - (4 - (j + 1)) = j by omega, if_neg (by omega)]
  simpa using he
theorem RowI.step {a b o : List Nat} {i V0 j c s c' : Nat} (h : RowI a b i V0 o (j + 1) c) (hj : j < 4) (hs : i + j ≤ 4) (hsB : s < 18446744073709551616) (hc : c' < 18446744073709551616) (e : s + c' * 18446744073709551616 = nt o (i + j + 1) + nt a i * nt b j + c) : RowI a b i V0 (o.set (i + j + 1) s) j c' := by
  refine ⟨h.wd.set (by omega) hsB, hc, fun hh => by omega, ?_⟩
  have he := h.eq
  have hset := valB_set (B := 18446744073709551616) (x := s) (l := o) (p := i + j + 1) (by rw [h.wd.len]; omega)
  rw [h.wd.len] at hset
  rw [show 4 - j = 4 - (j + 1) + 1 by omega]
  unfold rowM
  rw [show 3 - (4 - (j + 1)) = j by omega, if_pos hs]
  rw [show 5 - (i + (j + 1)) = 4 - i - j by omega] at he
  rw [show 6 - (i + j + 1) - 1 = 4 - i - j by omega] at hset
  have hp : 18446744073709551616 ^ (5 - (i + j)) = 18446744073709551616 ^ (4 - i - j) * 18446744073709551616 := by rw [← Nat.pow_succ]; congr 1; omega
  rw [hp]
  generalize 18446744073709551616 ^ (4 - i - j) = P at *
  generalize rowM _ b i (4 - (j + 1)) = R at *
  generalize (18446744073709551616 : Nat) = B at *
  have e2 : (s + c' * B) * P = (nt o (i + j + 1) + nt a i * nt b j + c) * P := by rw [e]
  grind
structure CarI (T : Nat) (o : List Nat) (q c : Nat) : Prop where
  wd : Wd 6 o
  cB : c < 18446744073709551616
  eq : valB 18446744073709551616 o + c * 18446744073709551616 ^ (6 - q) = T
theorem RowI.car {a b o : List Nat} {i V0 c : Nat} (h : RowI a b i V0 o 0 c) (hi : i < 4) : CarI (V0 + nt a i * rowM 18446744073709551616 b i 4) o (i + 1) c := ⟨h.wd, h.cB, by
  have he := h.eq
  rw [show 5 - (i + 0) = 6 - (i + 1) by omega] at he
  exact he⟩
theorem CarI.step {T k c s c' : Nat} {o : List Nat} (h : CarI T o (k + 1) c) (hk : k < 4) (hs : s < 18446744073709551616) (hc : c' ≤ 1) (e : s + c' * 18446744073709551616 = nt o k + c + 0) : CarI T (o.set k s) k c' := by
  refine ⟨h.wd.set (by omega) hs, by omega, ?_⟩
  have he := h.eq
  have hset := valB_set (B := 18446744073709551616) (x := s) (l := o) (p := k) (by rw [h.wd.len]; omega)
  rw [h.wd.len] at hset
  rw [show 6 - (k + 1) = 6 - k - 1 by omega] at he
  have hp : 18446744073709551616 ^ (6 - k) = 18446744073709551616 ^ (6 - k - 1) * 18446744073709551616 := by rw [← Nat.pow_succ]; congr 1; omega
  rw [hp]
  generalize 18446744073709551616 ^ (6 - k - 1) = P at *
  generalize (18446744073709551616 : Nat) = B at *
  have e2 : (s + c' * B) * P = (nt o k + c + 0) * P := by rw [e]
  grind
theorem CarI.done {T q c : Nat} {o : List Nat} (h : CarI T o q c) (hT : T < 18446744073709551616 ^ 6) (hq : q = 0 ∨ c = 0) : valB 18446744073709551616 o = T := by
  have he := h.eq
  rcases hq with rfl | rfl
  · have : c = 0 := by
      rcases Nat.eq_zero_or_pos c with h0 | h0
      · exact h0
      · have h1 : 1 * 18446744073709551616 ^ (6 - 0) ≤ c * 18446744073709551616 ^ (6 - 0) := Nat.mul_le_mul_right _ h0
        rw [show 6 - 0 = 6 by rfl] at *
        omega
    subst this
    simpa using he
  · simpa using he
theorem take4 {o : List Nat} (h : Wd 6 o) : Wd 4 (o.take 4) ∧ val4 (o.take 4) = valB 18446744073709551616 o / 18446744073709551616 ^ 2 ∧ ∀ i, i < 4 → nt (o.take 4) i = nt o i := by
  have hl := h.len
  match o, hl with
  | [x0, x1, x2, x3, x4, x5], _ =>
    have q : ∀ i, i < 4 → nt [x0, x1, x2, x3] i = nt [x0, x1, x2, x3, x4, x5] i := fun i hi => by
      match i, hi with
      | 0, _ => rfl
      | 1, _ => rfl
      | 2, _ => rfl
      | 3, _ => rfl
    refine ⟨⟨rfl, fun i => ?_⟩, ?_, q⟩
    · by_cases hi : i < 4
      · rw [show List.take 4 [x0, x1, x2, x3, x4, x5] = [x0, x1, x2, x3] from rfl, q i hi]; exact h.lt i
      · unfold nt
        simp [List.getD, show ¬ i < 4 from hi]
    · have h4 := h.lt 4
      have h5 := h.lt 5
      change x4 < _ at h4
      change x5 < _ at h5
      show valB _ [x0, x1, x2, x3] = _
      generalize hB : (18446744073709551616 : Nat) = B at *
      have e : valB B [x0, x1, x2, x3, x4, x5] = (x4 * B + x5) + B ^ 2 * valB B [x0, x1, x2, x3] := by
        simp [valB]
        grind
      have hlt : x4 * B + x5 < B ^ 2 := by
        have : (x4 + 1) * B ≤ B * B := Nat.mul_le_mul_right _ h4
        rw [Nat.succ_mul] at this
        rw [show B ^ 2 = B * B by grind]
        omega
      rw [e, Nat.add_mul_div_left _ _ (by omega), Nat.div_eq_of_lt hlt, Nat.zero_add]
theorem mul_done {a b o : List Nat} (ha : Wd 4 a) (hb : Wd 4 b) (ho : Wd 6 o) (h : valB 18446744073709551616 o = sumR 18446744073709551616 a b 4) : val4 (o.take 4) * 18446744073709551616 ^ 4 ≤ val4 a * val4 b ∧ val4 a * val4 b ≤ (val4 (o.take 4) + 2) * 18446744073709551616 ^ 4 := by
  obtain ⟨h1, h2⟩ := sumR_ok (B := 18446744073709551616) ha.len hb.len ha.lt hb.lt
  rw [(take4 ho).2.1, h]
  unfold val4
  have h3 := Nat.div_add_mod (sumR 18446744073709551616 a b 4) (18446744073709551616 ^ 2)
  have h4 := Nat.mod_lt (sumR 18446744073709551616 a b 4) (show 0 < 18446744073709551616 ^ 2 by decide)
  generalize sumR 18446744073709551616 a b 4 / 18446744073709551616 ^ 2 = Q at *
  generalize sumR 18446744073709551616 a b 4 % 18446744073709551616 ^ 2 = M at *
  generalize valB 18446744073709551616 a * valB 18446744073709551616 b = N at *
  rw [← h3] at h1 h2
  have hB : 3 ≤ (18446744073709551616 : Nat) := by decide
  generalize (18446744073709551616 : Nat) = B at *
  have e4 : B ^ 4 = B ^ 2 * B ^ 2 := by rw [← Nat.pow_add]
  have e3 : 3 * B ^ 3 ≤ B ^ 4 := by
    rw [show B ^ 4 = B * B ^ 3 by rw [← Nat.pow_succ']]
    exact Nat.mul_le_mul_right _ hB
  have h5 : M * B ^ 2 ≤ B ^ 4 := by rw [e4]; exact Nat.mul_le_mul_right _ (Nat.le_of_lt h4)
  have e5 : (B ^ 2 * Q + M) * B ^ 2 = Q * B ^ 4 + M * B ^ 2 := by rw [e4]; grind
  rw [e5] at h1 h2
  rw [Nat.add_mul]
  generalize Q * B ^ 4 = X at *
  generalize M * B ^ 2 = Y at *
  generalize B ^ 3 = Z at *
  generalize B ^ 4 = U at *
  constructor <;> omega
end Go.Proofs.YtnnmfdeeicpdlaaGreat
/- Products of numbers of four words: the walk. -/
namespace Go.Proofs.YtnnmfdeeicpdlaaGreat
open Go.RowKit

theorem zero6 : Wd 6 [0, 0, 0, 0, 0, 0] ∧ valB 18446744073709551616 [0, 0, 0, 0, 0, 0] = 0 := ⟨⟨rfl, fun i => by
  unfold nt
  match i with
  | 0 => decide
  | 1 => decide
  | 2 => decide
  | 3 => decide
  | 4 => decide
  | 5 => decide
  | i + 6 => simp⟩, by simp [valB]⟩
theorem zero6_cells : (#[.int .u64 0, .int .u64 0, .int .u64 0, .int .u64 0, .int .u64 0, .int .u64 0] : Array Value) = nuA [0, 0, 0, 0, 0, 0] := rfl
theorem one_call {P : Program} {f : FuncId} {args : Array Value} {v : Value} (h : ∀ W, Calls P f args W fun e w' => e = .returned v ∧ w' = W) (W : World) : Calls P f args W fun e w' => e = .returned v ∧ ∃ d, w' = bw W d :=
  (h W).mono fun _ _ ⟨h1, h2⟩ => ⟨h1, noExt _, by rw [bw_noExt]; exact h2⟩
set_option maxHeartbeats 4000000 in
set_option maxRecDepth 100000 in
theorem nm_mul (a b : List Nat) (ha : Wd 4 a) (hb : Wd 4 b) (w : World) :
    Calls Tryz.prog 281 #[nuV a, nuV b] w fun e w' => ∃ r d, e = .returned (nuV r) ∧ w' = bw w d ∧ Wd 4 r ∧ val4 r * 18446744073709551616 ^ 4 ≤ val4 a * val4 b ∧ val4 a * val4 b ≤ (val4 r + 2) * 18446744073709551616 ^ 4 := by
  refine lay_start ?_
  have hlt := sumR_lt ha.len hb.len ha.mem hb.mem (by decide)
  have HLT := Lib.hid hlt
  clear hlt
  unfold nuV
  go_enter Tryz.func281, Tryz.ntmps281
  go_wp2_with fail
  rw [← nuA_four ha.len, ← nuA_four hb.len, zero6_cells]
  go_loopw [6, 7, 8, 9, 10, 11, 12, 13] (fun v6 _ _ _ _ _ _ _ wr => ∃ (k : Nat) (o : List Nat) (d : Ext), k ≤ 4 ∧ v6 = .int .i64 ((k : Int) - 1) ∧ wr = lay w [.inr d, .inl (.cells (nuA o) 295 (0, 0)), .inl (.cells #[.int .u64 0, .int .u64 0, .int .u64 0, .int .u64 0] 265 (0, 0)), .inl (.cells (nuA b) 265 (0, 0)), .inl (.cells (nuA a) 265 (0, 0))] ∧ Wd 6 o ∧ valB 18446744073709551616 o = sumR 18446744073709551616 a b (4 - k)) (fun v6 _ _ _ _ _ _ _ _ => (intOf v6 + 1).toNat)
  case atStart => exact ⟨4, _, noExt _, Nat.le_refl _, rfl, (bw_noExt _).symm, zero6.1, zero6.2⟩
  case round =>
    obtain ⟨k, o, d, hk, rfl, rfl, ho, hV⟩ := hrel
    have HO := Lib.hid (And.intro ho hV)
    clear ho hV
    rcases k with _ | i
    · rw [show ((0 : Nat) : Int) - 1 = -1 from rfl]
      have hT := take4 HO.out.1
      have g0 := nuA_get (l := o) (i := 0) (by rw [HO.out.1.len]; decide)
      have g1 := nuA_get (l := o) (i := 1) (by rw [HO.out.1.len]; decide)
      have g2 := nuA_get (l := o) (i := 2) (by rw [HO.out.1.len]; decide)
      have g3 := nuA_get (l := o) (i := 3) (by rw [HO.out.1.len]; decide)
      rw [← hT.2.2 0 (by decide)] at g0
      rw [← hT.2.2 1 (by decide)] at g1
      rw [← hT.2.2 2 (by decide)] at g2
      rw [← hT.2.2 3 (by decide)] at g3
      have HE := Lib.hid (And.intro hT.1 (mul_done ha hb HO.out.1 HO.out.2))
      have hat : ∀ W, (Instr.arrayAt 265 (.slice (some ⟨posn w [1, 1, 1], 0, none⟩) 4 6)).run Tryz.prog W = .ok (.pointer (some ⟨posn w [1, 1, 1], 0, none⟩)) W := fun W => run_arrayAt W 265 _ 4 _ 4 6 Tryz.underlying265 (by decide)
      clear hT
      generalize o.take 4 = r at *
      go_wp2_with fail
      obtain ⟨dz, ez⟩ := lay_all w [.inr d, .inl (.cells (nuA o) 295 (0, 0)), .inl (.cells #[.int .u64 (nt r 0 : Int), .int .u64 (nt r 1 : Int), .int .u64 (nt r 2 : Int), .int .u64 (nt r 3 : Int)] 265 (0, 0)), .inl (.cells (nuA b) 265 (0, 0)), .inl (.cells (nuA a) 265 (0, 0))]
      exact bodyPost_ret (v := .agg #[.int .u64 (nt r 0 : Int), .int .u64 (nt r 1 : Int), .int .u64 (nt r 2 : Int), .int .u64 (nt r 3 : Int)]) (by simp [results, Tryz.results281, go_sem]) rfl ⟨r, dz, rfl, ez, HE.out.1, HE.out.2⟩
    · rw [show ((i + 1 : Nat) : Int) - 1 = (i : Int) by omega]
      have hi : i < 4 := by omega
      have x0 : (0 : Int) ≤ (i : Int) := by omega
      have x1 : (i : Int) < 4 := by omega
      have x2 : (i : Int).toNat = i := by omega
      go_wp2_with fail
      go_loopw [7, 8, 9, 10, 11, 12] (fun v7 v8 _ _ _ _ wr => ∃ (k c : Nat) (o : List Nat) (d : Ext), k ≤ 4 ∧ v7 = .int .u64 (c : Int) ∧ v8 = .int .i64 ((k : Int) - 1) ∧ wr = lay w [.inr d, .inl (.cells (nuA o) 295 (0, 0)), .inl (.cells #[.int .u64 0, .int .u64 0, .int .u64 0, .int .u64 0] 265 (0, 0)), .inl (.cells (nuA b) 265 (0, 0)), .inl (.cells (nuA a) 265 (0, 0))] ∧ RowI a b i (sumR 18446744073709551616 a b (3 - i)) o k c) (fun _ v8 _ _ _ _ _ => (intOf v8 + 1).toNat)
      case atStart =>
        have hs := RowI.start (a := a) (b := b) (i := i) HO.out.1
        rw [HO.out.2, show 4 - (i + 1) = 3 - i by omega] at hs
        exact ⟨4, 0, o, d, Nat.le_refl _, rfl, rfl, rfl, hs⟩
      case round =>
        obtain ⟨k, c, o, dd, hk, rfl, rfl, rfl, hR⟩ := hrel
        have HR := Lib.hid hR
        clear hR HO
        rcases k with _ | j
        · rw [show ((0 : Nat) : Int) - 1 = -1 from rfl]
          have HC := Lib.hid (HR.out.car hi)
          clear HR
          rw [show sumR 18446744073709551616 a b (3 - i) + nt a i * rowM 18446744073709551616 b i 4 = sumR 18446744073709551616 a b (4 - i) by
            rw [show 4 - i = 3 - i + 1 by omega]
            show _ = nt a (3 - (3 - i)) * rowM 18446744073709551616 b (3 - (3 - i)) 4 + sumR 18446744073709551616 a b (3 - i)
            rw [show 3 - (3 - i) = i by omega, Nat.add_comm]] at HC
          have hTl : sumR 18446744073709551616 a b (4 - i) < 18446744073709551616 ^ 6 := Nat.lt_of_le_of_lt (sumR_le (by omega)) HLT.out
          have HTL := Lib.hid hTl
          clear hTl
          go_wp2_with fail
          go_loopw [7, 13] (fun v7 v13 wr => ∃ (q c : Nat) (o : List Nat) (d : Ext), q ≤ i + 1 ∧ v7 = .int .u64 (c : Int) ∧ v13 = .int .i64 ((q : Int) - 1) ∧ wr = lay w [.inr d, .inl (.cells (nuA o) 295 (0, 0)), .inl (.cells #[.int .u64 0, .int .u64 0, .int .u64 0, .int .u64 0] 265 (0, 0)), .inl (.cells (nuA b) 265 (0, 0)), .inl (.cells (nuA a) 265 (0, 0))] ∧ CarI (sumR 18446744073709551616 a b (4 - i)) o q c) (fun _ v13 _ => (intOf v13 + 1).toNat)
          case atStart => exact ⟨i + 1, c, o, dd, Nat.le_refl _, rfl, by first | rfl | exact congrArg (Value.int .i64) (by omega), rfl, HC.out⟩
          case round =>
            obtain ⟨q, c, o, d, hq, rfl, rfl, rfl, hC⟩ := hrel
            have HC := Lib.hid hC
            rcases q with _ | q
            · rw [show ((0 : Nat) : Int) - 1 = -1 from rfl]
              have HF := Lib.hid (And.intro hC.wd (hC.done HTL.out (.inl rfl)))
              clear hC HC
              go_wp2_with fail
              exact ⟨⟨i, o, d, by omega, rfl, rfl, HF.out.1, HF.out.2⟩, by simp [intOf]⟩
            · rw [show ((q + 1 : Nat) : Int) - 1 = (q : Int) by omega]
              have q0 : (0 : Int) ≤ (q : Int) := by omega
              by_cases hc0 : c = 0
              · have c1 : ¬ (0 : Int) < (c : Int) := by omega
                have c2 : decide ((0 : Int) < (c : Int)) = false := decide_eq_false c1
                have c3 : ¬ 0 < c := by omega
                have HF := Lib.hid (And.intro hC.wd (hC.done HTL.out (.inr hc0)))
                clear hC HC hc0
                go_wp2_with fail
                exact ⟨⟨i, o, d, by omega, rfl, rfl, HF.out.1, HF.out.2⟩, by simp [intOf]⟩
              · have c1 : (0 : Int) < (c : Int) := by omega
                have c2 : decide ((0 : Int) < (c : Int)) = true := decide_eq_true c1
                have c3 : 0 < c := by omega
                have q1 : (q : Int) < 6 := by omega
                have q2 : (q : Int).toNat = q := by omega
                obtain ⟨X, hX⟩ : ∃ X, nt o q = X := ⟨_, rfl⟩
                have g0 := nuA_get (l := o) (i := q) (by rw [hC.wd.len]; omega)
                rw [hX] at g0
                obtain ⟨SS, CC, hSS, hCC, e1, e2, e3⟩ := add_word (x := X) (y := c) (c := 0) (B := 18446744073709551616) (by rw [← hX]; exact hC.wd.lt q) hC.cB (by omega)
                have hcall : ∀ W, (callFunc 291 #[.int .u64 (X : Int), .int .u64 (c : Int), .int .u64 0]).run Tryz.prog W = .ok (.value (.tuple #[.int .u64 (SS : Int), .int .u64 (CC : Int)])) W := fun W => by
                  have := add64 X c 0 (by omega) W
                  rw [e1, e2] at this
                  exact this
                have HN := Lib.hid (hC.step (by omega) hSS hCC (by rw [hX]; exact e3))
                clear hC HC e1 e2 e3 hX hc0
                go_wp2_with fail
                rw [nuA_set]
                exact ⟨⟨q, CC, o.set q SS, d, by omega, rfl, rfl, rfl, HN.out⟩, by simp [intOf]⟩
        · rw [show ((j + 1 : Nat) : Int) - 1 = (j : Int) by omega]
          have hj : j < 4 := by omega
          have y0 : (0 : Int) ≤ (j : Int) := by omega
          have y1 : (j : Int) < 4 := by omega
          have y2 : (j : Int).toNat = j := by omega
          have w1 : IntKind.i64.wrap ((i : Int) + (j : Int)) = (i : Int) + (j : Int) := IntWalk.i64_in _ (by omega)
          by_cases hs : 4 < i + j
          · have z1 : (4 : Int) < (i : Int) + (j : Int) := by omega
            have HN := Lib.hid (HR.out.skip hj hs)
            go_wp2_with fail
            exact ⟨⟨j, c, o, dd, by omega, rfl, rfl, rfl, HN.out⟩, by simp [intOf]⟩
          · have z1 : ¬ (4 : Int) < (i : Int) + (j : Int) := by omega
            have hs2 : i + j ≤ 4 := by omega
            have w2 : IntKind.i64.wrap ((i : Int) + (j : Int) + 1) = (i : Int) + (j : Int) + 1 := IntWalk.i64_in _ (by omega)
            have w4 : (0 : Int) ≤ (i : Int) + (j : Int) + 1 := by omega
            have w5 : (i : Int) + (j : Int) + 1 < 6 := by omega
            have w6 : ((i : Int) + (j : Int) + 1).toNat = i + j + 1 := by omega
            obtain ⟨X, hX⟩ : ∃ X, nt a i = X := ⟨_, rfl⟩
            obtain ⟨Y, hY⟩ : ∃ Y, nt b j = Y := ⟨_, rfl⟩
            obtain ⟨O, hO⟩ : ∃ O, nt o (i + j + 1) = O := ⟨_, rfl⟩
            have g0 := nuA_get (l := a) (i := i) (by rw [ha.len]; exact hi)
            have g1 := nuA_get (l := b) (i := j) (by rw [hb.len]; exact hj)
            have g2 := nuA_get (l := o) (i := i + j + 1) (by rw [HR.out.wd.len]; omega)
            rw [hX] at g0
            rw [hY] at g1
            rw [hO] at g2
            have hXl : X < 18446744073709551616 := by rw [← hX]; exact ha.lt i
            have hYl : Y < 18446744073709551616 := by rw [← hY]; exact hb.lt j
            obtain ⟨HI, LO, S1, C1, S2, C2, e1, e2, e3, e4, e5, e6, hC1, hC2, hS2, hS1, hLO, hH, e7⟩ := row_word (x := X) (y := Y) (o := O) (c := c) (B := 18446744073709551616) hXl hYl (by rw [← hO]; exact HR.out.wd.lt _) HR.out.cB
            have HM := Lib.hid (one_call (fun W => Tryz.bits_Mul64 X Y hXl hYl W))
            rw [e1, e2] at HM
            have hcall1 : ∀ W, (callFunc 291 #[.int .u64 (O : Int), .int .u64 (LO : Int), .int .u64 0]).run Tryz.prog W = .ok (.value (.tuple #[.int .u64 (S1 : Int), .int .u64 (C1 : Int)])) W := fun W => by
              have := add64 O LO 0 (by omega) W
              rw [e3, e4] at this
              exact this
            have hcall2 : ∀ W, (callFunc 291 #[.int .u64 (S1 : Int), .int .u64 (c : Int), .int .u64 0]).run Tryz.prog W = .ok (.value (.tuple #[.int .u64 (S2 : Int), .int .u64 (C2 : Int)])) W := fun W => by
              have := add64 S1 c 0 (by omega) W
              rw [e5, e6] at this
              exact this
            have kH1 : IntKind.u64.wrap ((HI : Int) + (C1 : Int)) = (HI : Int) + (C1 : Int) := IntWalk.u64_in _ (by omega)
            have kH2 : IntKind.u64.wrap ((HI : Int) + (C1 : Int) + (C2 : Int)) = (HI : Int) + (C1 : Int) + (C2 : Int) := IntWalk.u64_in _ (by omega)
            have HN := Lib.hid (HR.out.step hj hs2 hS2 hH (by rw [hX, hY, hO]; exact e7))
            clear HR e1 e2 e3 e4 e5 e6 e7 hX hY hO hXl hYl hs
            go_wp2_with fail
            refine region_mixW [0, 0, 0, 0, 0, 0, 0, 0, 0, 0, 0, 0] (by kernel_rfl) (by kernel_rfl) (by kernel_rfl) ?_
            repeat (first | (refine wpM_quiet (fun K hK => ?_); go_simp; first | (refine hK _ ?_; clear hK K) | (apply Exists.intro; refine ⟨fun _ => ?_, hK _ ?_⟩; (first | (go_at_call 79; exact bq (HM.out _) (fun d => ⟨d, rfl⟩))); clear hK K)) | (refine wpM_special (fun K hK d => ?_); go_simp; refine hK _ _ (by first | exact lay_in w [_] _ | exact lay_in w [_, _] _ | exact lay_in w [_, _, _] _ | exact lay_in w [_, _, _, _] _ | exact lay_in w [_, _, _, _, _] _ | exact lay_in w [_, _, _, _, _, _] _) ?_; clear hK K))
            refine wpM_nil ?_
            intro d
            rw [lay_bw]
            go_wp2_with fail
            rw [nuA_set]
            obtain ⟨d3, e3⟩ := lay_fold w [.inr d, .inr dd] [.inl (.cells (nuA (o.set (i + j + 1) S2)) 295 (0, 0)), .inl (.cells #[.int .u64 0, .int .u64 0, .int .u64 0, .int .u64 0] 265 (0, 0)), .inl (.cells (nuA b) 265 (0, 0)), .inl (.cells (nuA a) 265 (0, 0))]
            change lay w [.inr d, .inr dd, .inl (.cells (nuA (o.set (i + j + 1) S2)) 295 (0, 0)), .inl (.cells #[.int .u64 0, .int .u64 0, .int .u64 0, .int .u64 0] 265 (0, 0)), .inl (.cells (nuA b) 265 (0, 0)), .inl (.cells (nuA a) 265 (0, 0))] = _ at e3
            rw [e3]
            exact ⟨⟨j, HI + C1 + C2, o.set (i + j + 1) S2, d3, by omega, by first | rfl | exact congrArg (Value.int .u64) (by omega), rfl, rfl, HN.out⟩, by simp [intOf]⟩
end Go.Proofs.YtnnmfdeeicpdlaaGreat
/- The sine and the cosine of the first eighth of a turn, unit by unit, as a rotation of numbers of 96 bits: none is near to a multiple of 2^-30, but the sine of a third of a right angle. No program in sight. -/
namespace Go.Proofs.YtnnmfdeeicpdlaaGreat

def rotV (c1 s1 K : Nat) : Nat → Nat × Nat
  | 0 => (0, K)
  | r + 1 => (((rotV c1 s1 K r).1 * c1 + (rotV c1 s1 K r).2 * s1) / K, ((rotV c1 s1 K r).2 * c1 - (rotV c1 s1 K r).1 * s1) / K)
def gapV (G G2 M x : Nat) : Prop := G2 ≤ (x + G) % M
noncomputable def rotB (c1 s1 K G G2 M se ce n : Nat) : Nat → Nat → Bool := Nat.rec (motive := fun _ => Nat → Nat → Bool) (fun s c => Bool.rec false (Nat.beq c ce) (Nat.beq s se)) (fun _ ih s c => Bool.rec false (Bool.rec false (ih (Nat.div (Nat.add (Nat.mul s c1) (Nat.mul c s1)) K) (Nat.div (Nat.sub (Nat.mul c c1) (Nat.mul s s1)) K)) (Nat.ble G2 (Nat.mod (Nat.add c G) M))) (Nat.ble G2 (Nat.mod (Nat.add s G) M))) n
noncomputable def rotC (c1 s1 K G G2 M se ce n : Nat) : Nat → Nat → Bool := Nat.rec (motive := fun _ => Nat → Nat → Bool) (fun s c => Bool.rec false (Nat.beq c ce) (Nat.beq s se)) (fun _ ih s c => Bool.rec false (ih (Nat.div (Nat.add (Nat.mul s c1) (Nat.mul c s1)) K) (Nat.div (Nat.sub (Nat.mul c c1) (Nat.mul s s1)) K)) (Nat.ble G2 (Nat.mod (Nat.add c G) M))) n
section
variable {c1 s1 K G G2 M : Nat}
theorem rec_true {b c : Bool} (h : (Bool.rec false c b : Bool) = true) : b = true ∧ c = true := by
  cases b
  · cases h
  · exact ⟨rfl, h⟩
theorem rotB_ok {se ce : Nat} : ∀ (n s c : Nat), rotB c1 s1 K G G2 M se ce n s c = true → ∀ a, rotV c1 s1 K a = (s, c) → rotV c1 s1 K (a + n) = (se, ce) ∧ ∀ r, a ≤ r → r < a + n → gapV G G2 M (rotV c1 s1 K r).1 ∧ gapV G G2 M (rotV c1 s1 K r).2
  | 0, s, c, h, a, ha => by
    obtain ⟨h1, h2⟩ := rec_true h
    rw [Nat.eq_of_beq_eq_true h1, Nat.eq_of_beq_eq_true h2] at ha
    exact ⟨ha, fun r h3 h4 => by omega⟩
  | n + 1, s, c, h, a, ha => by
    obtain ⟨h1, h⟩ := rec_true h
    obtain ⟨h2, h3⟩ := rec_true h
    have ha1 : rotV c1 s1 K (a + 1) = (_, _) := rfl
    rw [ha] at ha1
    obtain ⟨e, g⟩ := rotB_ok n _ _ h3 (a + 1) ha1
    refine ⟨by rw [show a + (n + 1) = a + 1 + n by omega]; exact e, fun r h4 h5 => ?_⟩
    by_cases hr : r = a
    · subst hr
      rw [ha]
      exact ⟨Nat.le_of_ble_eq_true h1, Nat.le_of_ble_eq_true h2⟩
    · exact g r (by omega) (by omega)
theorem rotC_ok {se ce : Nat} : ∀ (n s c : Nat), rotC c1 s1 K G G2 M se ce n s c = true → ∀ a, rotV c1 s1 K a = (s, c) → rotV c1 s1 K (a + n) = (se, ce) ∧ ∀ r, a ≤ r → r < a + n → gapV G G2 M (rotV c1 s1 K r).2
  | 0, s, c, h, a, ha => by
    obtain ⟨h1, h2⟩ := rec_true h
    rw [Nat.eq_of_beq_eq_true h1, Nat.eq_of_beq_eq_true h2] at ha
    exact ⟨ha, fun r h3 h4 => by omega⟩
  | n + 1, s, c, h, a, ha => by
    obtain ⟨h2, h3⟩ := rec_true h
    have ha1 : rotV c1 s1 K (a + 1) = (_, _) := rfl
    rw [ha] at ha1
    obtain ⟨e, g⟩ := rotC_ok n _ _ h3 (a + 1) ha1
    refine ⟨by rw [show a + (n + 1) = a + 1 + n by omega]; exact e, fun r h4 h5 => ?_⟩
    by_cases hr : r = a
    · subst hr
      rw [ha]
      exact Nat.le_of_ble_eq_true h2
    · exact g r (by omega) (by omega)
def RotTo (c1 s1 K G G2 M t a s c : Nat) : Prop := rotV c1 s1 K a = (s, c) ∧ ∀ r, 1 ≤ r → r < a → (r ≠ t → gapV G G2 M (rotV c1 s1 K r).1) ∧ gapV G G2 M (rotV c1 s1 K r).2
theorem RotTo.next {t a s c : Nat} (h : RotTo c1 s1 K G G2 M t a s c) (n se ce : Nat) (hb : rotB c1 s1 K G G2 M se ce n s c = true) {b : Nat} (he : a + n = b) : RotTo c1 s1 K G G2 M t b se ce := by
  obtain ⟨e, g⟩ := rotB_ok n s c hb a h.1
  subst he
  refine ⟨e, fun r h1 h2 => ?_⟩
  by_cases h3 : r < a
  · exact h.2 r h1 h3
  · obtain ⟨g1, g2⟩ := g r (by omega) h2
    exact ⟨fun _ => g1, g2⟩
theorem RotTo.third {t s c : Nat} (h : RotTo c1 s1 K G G2 M t t s c) (se ce : Nat) (hb : rotC c1 s1 K G G2 M se ce 1 s c = true) : RotTo c1 s1 K G G2 M t (t + 1) se ce := by
  obtain ⟨e, g⟩ := rotC_ok 1 s c hb t h.1
  refine ⟨e, fun r h1 h2 => ?_⟩
  by_cases h3 : r < t
  · exact h.2 r h1 h3
  · exact ⟨fun h4 => absurd (show r = t by omega) h4, g r (by omega) h2⟩
end
def rotN : Nat → Nat × Nat := rotV 79228162514260985610427347966 23046538269650701392778 79228162514264337593543950336
def gapN (x : Nat) : Prop := gapV 17592186044416 35184372088832 73786976294838206464 x
def RotN (a s c : Nat) : Prop := RotTo 79228162514260985610427347966 23046538269650701392778 79228162514264337593543950336 17592186044416 35184372088832 73786976294838206464 1800000 a s c
theorem rot_1 : RotN 1 23046538269650701392778 79228162514260985610427347966 := ⟨by decide +kernel, fun r h1 h2 => by omega⟩

set_option maxRecDepth 100000
theorem rot_5000 : RotN 5000 115232650721077584759896575 79228078714701194992863360391 := rot_1.next 4999 _ _ (by decide +kernel) rfl
theorem rot_10000 : RotN 10000 230465057679193016973788618 79227827316189036650570245785 := rot_5000.next 5000 _ _ (by decide +kernel) rfl
theorem rot_15000 : RotN 15000 345696977111899799869842870 79227408319259670570915012422 := rot_10000.next 5000 _ _ (by decide +kernel) rfl
theorem rot_20000 : RotN 20000 460928165257782747133751160 79226821724799442177664039471 := rot_15000.next 5000 _ _ (by decide +kernel) rfl
theorem rot_25000 : RotN 25000 576158378356973635410451867 79226067534049232439126009581 := rot_20000.next 5000 _ _ (by decide +kernel) rfl
theorem rot_30000 : RotN 30000 691387372651666853533408405 79225145748604455243194324383 := rot_25000.next 5000 _ _ (by decide +kernel) rfl
theorem rot_35000 : RotN 35000 806614904386635047390641243 79224056370415054022411157388 := rot_30000.next 5000 _ _ (by decide +kernel) rfl
theorem rot_40000 : RotN 40000 921840729809744759336718960 79222799401785497629060284431 := rot_35000.next 5000 _ _ (by decide +kernel) rfl
theorem rot_45000 : RotN 45000 1037064605172472061059926104 79221374845374775460297416890 := rot_40000.next 5000 _ _ (by decide +kernel) rfl
theorem rot_50000 : RotN 50000 1152286286730418178813838309 79219782704196391833328350005 := rot_45000.next 5000 _ _ (by decide +kernel) rfl
theorem rot_55000 : RotN 55000 1267505530743825109922552132 79218022981618359610646825658 := rot_50000.next 5000 _ _ (by decide +kernel) rfl
theorem rot_60000 : RotN 60000 1382722093478091229468835334 79216095681363193075345593734 := rot_55000.next 5000 _ _ (by decide +kernel) rfl
theorem rot_65000 : RotN 65000 1497935731204286886074484195 79214000807507900056515744768 := rot_60000.next 5000 _ _ (by decide +kernel) rfl
theorem rot_70000 : RotN 70000 1613146200199669985682196967 79211738364483973304750970625 := rot_65000.next 5000 _ _ (by decide +kernel) rfl
theorem rot_75000 : RotN 75000 1728353256748201562248298907 79209308357077381117774998633 := rot_70000.next 5000 _ _ (by decide +kernel) rfl
theorem rot_80000 : RotN 80000 1843556657141061334255680740 79206710790428557216212028656 := rot_75000.next 5000 _ _ (by decide +kernel) rfl
theorem rot_85000 : RotN 85000 1958756157677163245956344188 79203945670032389869521590794 := rot_80000.next 5000 _ _ (by decide +kernel) rfl
theorem rot_90000 : RotN 90000 2073951514663670992252978454 79201013001738210272120825762 := rot_85000.next 5000 _ _ (by decide +kernel) rfl
theorem rot_95000 : RotN 95000 2189142484416513526129027658 79197912791749780169718778040 := rot_90000.next 5000 _ _ (by decide +kernel) rfl
theorem rot_100000 : RotN 100000 2304328823260900547536745651 79194645046625278735888876120 := rot_95000.next 5000 _ _ (by decide +kernel) rfl
theorem rot_105000 : RotN 105000 2419510287531837972652773715 79191209773277288698907361955 := rot_100000.next 5000 _ _ (by decide +kernel) rfl
theorem rot_110000 : RotN 110000 2534686633574643382410818424 79187606978972781718887016143 := rot_105000.next 5000 _ _ (by decide +kernel) rfl
theorem rot_115000 : RotN 115000 2649857617745461449221050537 79183836671333103015237112650 := rot_110000.next 5000 _ _ (by decide +kernel) rfl
theorem rot_120000 : RotN 120000 2765022996411779340785892170 79179898858333955244482121641 := rot_115000.next 5000 _ _ (by decide +kernel) rfl
theorem rot_125000 : RotN 125000 2880182525952942099921908139 79175793548305381628473265587 := rot_120000.next 5000 _ _ (by decide +kernel) rfl
theorem rot_130000 : RotN 130000 2995335962760667999297567075 79171520749931748333028618869 := rot_125000.next 5000 _ _ (by decide +kernel) rfl
theorem rot_135000 : RotN 135000 3110483063239563869996692397 79167080472251726097039027578 := rot_130000.next 5000 _ _ (by decide +kernel) rfl
theorem rot_140000 : RotN 140000 3225623583807640402817478032 79162472724658271112078710668 := rot_135000.next 5000 _ _ (by decide +kernel) rfl
theorem rot_145000 : RotN 145000 3340757280896827421217000678 79157697516898605152560990316 := rot_140000.next 5000 _ _ (by decide +kernel) rfl
theorem rot_150000 : RotN 150000 3455883910953489124811221761 79152754859074194956481183323 := rot_145000.next 5000 _ _ (by decide +kernel) rfl
theorem rot_155000 : RotN 155000 3571003230438939302340533105 79147644761640730856790272503 := rot_150000.next 5000 _ _ (by decide +kernel) rfl
theorem rot_160000 : RotN 160000 3686114995829956513010966548 79142367235408104663444560421 := rot_155000.next 5000 _ _ (by decide +kernel) rfl
theorem rot_165000 : RotN 165000 3801218963619299235121252844 79136922291540386796178094149 := rot_160000.next 5000 _ _ (by decide +kernel) rfl
theorem rot_170000 : RotN 170000 3916314890316220980885985823 79131309941555802668046234044 := rot_165000.next 5000 _ _ (by decide +kernel) rfl
theorem rot_175000 : RotN 175000 4031402532446985376365218751 79125530197326708319790325201 := rot_170000.next 5000 _ _ (by decide +kernel) rfl
theorem rot_180000 : RotN 180000 4146481646555381205410893138 79119583071079565305075014104 := rot_175000.next 5000 _ _ (by decide +kernel) rfl
theorem rot_185000 : RotN 185000 4261551989203237416540577657 79113468575394914826651338718 := rot_180000.next 5000 _ _ (by decide +kernel) rfl
theorem rot_190000 : RotN 190000 4376613316970938091649071526 79107186723207351123500303700 := rot_185000.next 5000 _ _ (by decide +kernel) rfl
theorem rot_195000 : RotN 195000 4491665386457937375468509458 79100737527805494109013238165 := rot_190000.next 5000 _ _ (by decide +kernel) rfl
theorem rot_200000 : RotN 200000 4606707954283274364687686050 79094121002831961260266816836 := rot_195000.next 5000 _ _ (by decide +kernel) rfl
theorem rot_205000 : RotN 205000 4721740777086087955641405225 79087337162283338758452210006 := rot_200000.next 5000 _ _ (by decide +kernel) rfl
theorem rot_210000 : RotN 210000 4836763611526131649480745653 79080386020510151880519411637 := rot_205000.next 5000 _ _ (by decide +kernel) rfl
theorem rot_215000 : RotN 215000 4951776214284288313735224908 79073267592216834642099379516 := rot_210000.next 5000 _ _ (by decide +kernel) rfl
theorem rot_220000 : RotN 220000 5066778342063084899177936238 79065981892461698691768204195 := rot_215000.next 5000 _ _ (by decide +kernel) rfl
theorem rot_225000 : RotN 225000 5181769751587207110904826784 79058528936656901456719108298 := rot_220000.next 5000 _ _ (by decide +kernel) rfl
theorem rot_230000 : RotN 230000 5296750199604014032539382961 79050908740568413539909660220 := rot_225000.next 5000 _ _ (by decide +kernel) rfl
theorem rot_235000 : RotN 235000 5411719442884052702474087610 79043121320315985368753170951 := rot_230000.next 5000 _ _ (by decide +kernel) rfl
theorem rot_240000 : RotN 240000 5526677238221572641060115448 79035166692373113095424824483 := rot_235000.next 5000 _ _ (by decide +kernel) rfl
theorem rot_245000 : RotN 245000 5641623342435040327656836572 79027044873567003748854677087 := rot_240000.next 5000 _ _ (by decide +kernel) rfl
theorem rot_250000 : RotN 250000 5756557512367653626452804232 79018755881078539638481242007 := rot_245000.next 5000 _ _ (by decide +kernel) rfl
theorem rot_255000 : RotN 255000 5871479504887856159970011409 79010299732442242009840960855 := rot_250000.next 5000 _ _ (by decide +kernel) rfl
theorem rot_260000 : RotN 260000 5986389076889851629163310971 79001676445546233952070443513 := rot_255000.next 5000 _ _ (by decide +kernel) rfl
theorem rot_265000 : RotN 265000 6101285985294118079027008119 78992886038632202557399942688 := rot_260000.next 5000 _ _ (by decide +kernel) rfl
theorem rot_270000 : RotN 270000 6216169987047922108620747885 78983928530295360332718110598 := rot_265000.next 5000 _ _ (by decide +kernel) rfl
theorem rot_275000 : RotN 275000 6331040839125833024426938935 78974803939484405863289667868 := rot_270000.next 5000 _ _ (by decide +kernel) rfl
theorem rot_280000 : RotN 280000 6445898298530236935952074450 78965512285501483728709196452 := rot_275000.next 5000 _ _ (by decide +kernel) rfl
theorem rot_285000 : RotN 285000 6560742122291850792484432909 78956053588002143671175849834 := rot_280000.next 5000 _ _ (by decide +kernel) rfl
theorem rot_290000 : RotN 290000 6675572067470236359920766776 78946427866995299016175357109 := rot_285000.next 5000 _ _ (by decide +kernel) rfl
theorem rot_295000 : RotN 295000 6790387891154314136574712755 78936635142843184345657276112 := rot_290000.next 5000 _ _ (by decide +kernel) rfl
theorem rot_300000 : RotN 300000 6905189350462877206879787152 78926675436261312423797035255 := rot_295000.next 5000 _ _ (by decide +kernel) rfl
theorem rot_305000 : RotN 305000 7019976202545105031899961089 78916548768318430375433882182 := rot_300000.next 5000 _ _ (by decide +kernel) rfl
theorem rot_310000 : RotN 310000 7134748204581077175560944187 78906255160436475117277439840 := rot_305000.next 5000 _ _ (by decide +kernel) rfl
theorem rot_315000 : RotN 315000 7249505113782286965515440476 78895794634390528041977150305 := rot_310000.next 5000 _ _ (by decide +kernel) rfl
theorem rot_320000 : RotN 320000 7364246687392155087555779829 78885167212308768955150468159 := rot_315000.next 5000 _ _ (by decide +kernel) rfl
theorem rot_325000 : RotN 325000 7478972682686543112487467736 78874372916672429265467244377 := rot_320000.next 5000 _ _ (by decide +kernel) rfl
theorem rot_330000 : RotN 330000 7593682856974266954377339751 78863411770315744427889322813 := rot_325000.next 5000 _ _ (by decide +kernel) rfl
theorem rot_335000 : RotN 335000 7708376967597610259090151434 78852283796425905640165950441 := rot_330000.next 5000 _ _ (by decide +kernel) rfl
theorem rot_340000 : RotN 340000 7823054771932837722027583112 78840989018543010792687182658 := rot_335000.next 5000 _ _ (by decide +kernel) rfl
theorem rot_345000 : RotN 345000 7937716027390708333983787583 78829527460560014671799044404 := rot_340000.next 5000 _ _ (by decide +kernel) rfl
theorem rot_350000 : RotN 350000 8052360491416988554031761223 78817899146722678416685786445 := rot_345000.next 5000 _ _ (by decide +kernel) rfl
theorem rot_355000 : RotN 355000 8166987921492965408354973704 78806104101629518229926156163 := rot_350000.next 5000 _ _ (by decide +kernel) rfl
theorem rot_360000 : RotN 360000 8281598075135959513938847803 78794142350231753341832180360 := rot_355000.next 5000 _ _ (by decide +kernel) rfl
theorem rot_365000 : RotN 365000 8396190709899838026036839577 78782013917833253228680535772 := rot_360000.next 5000 _ _ (by decide +kernel) rfl
theorem rot_370000 : RotN 370000 8510765583375527508326031014 78769718830090484084948162445 := rot_365000.next 5000 _ _ (by decide +kernel) rfl
theorem rot_375000 : RotN 375000 8625322453191526724667310071 78757257113012454549665352004 := rot_370000.next 5000 _ _ (by decide +kernel) rfl
theorem rot_380000 : RotN 380000 8739861077014419351385379951 78744628792960660687001121558 := rot_375000.next 5000 _ _ (by decide +kernel) rfl
theorem rot_385000 : RotN 385000 8854381212549386608984005901 78731833896649030221197260657 := rot_380000.next 5000 _ _ (by decide +kernel) rfl
theorem rot_390000 : RotN 390000 8968882617540719812212079895 78718872451143866025969017659 := rot_385000.next 5000 _ _ (by decide +kernel) rfl
theorem rot_395000 : RotN 395000 9083365049772332837396255724 78705744483863788868491966516 := rot_390000.next 5000 _ _ (by decide +kernel) rfl
theorem rot_400000 : RotN 400000 9197828267068274505956081328 78692450022579679408096174711 := rot_395000.next 5000 _ _ (by decide +kernel) rfl
theorem rot_405000 : RotN 405000 9312272027293240883017733976 78678989095414619449790367164 := rot_400000.next 5000 _ _ (by decide +kernel) rfl
theorem rot_410000 : RotN 410000 9426696088353087490042641343 78665361730843832452740358781 := rot_405000.next 5000 _ _ (by decide +kernel) rfl
theorem rot_415000 : RotN 415000 9541100208195341430387456362 78651567957694623293827603852 := rot_410000.next 5000 _ _ (by decide +kernel) rfl
theorem rot_420000 : RotN 420000 9655484144809713426712034959 78637607805146317286415286259 := rot_415000.next 5000 _ _ (by decide +kernel) rfl
theorem rot_425000 : RotN 425000 9769847656228609769152253970 78623481302730198454450950287 := rot_420000.next 5000 _ _ (by decide +kernel) rfl
theorem rot_430000 : RotN 430000 9884190500527644173174695344 78609188480329447062036246557 := rot_425000.next 5000 _ _ (by decide +kernel) rfl
theorem rot_435000 : RotN 435000 9998512435826149546030412645 78594729368179076398595943480 := rot_430000.next 5000 _ _ (by decide +kernel) rfl
theorem rot_440000 : RotN 440000 10112813220287689660725190434 78580103996865868819779928130 := rot_435000.next 5000 _ _ (by decide +kernel) rfl
theorem rot_445000 : RotN 445000 10227092612120570736423902141 78565312397328311044233496014 := rot_440000.next 5000 _ _ (by decide +kernel) rfl
theorem rot_450000 : RotN 450000 10341350369578352924206769641 78550354600856528706372802579 := rot_445000.next 5000 _ _ (by decide +kernel) rfl
theorem rot_455000 : RotN 455000 10455586250960361697095529329 78535230639092220165303923774 := rot_450000.next 5000 _ _ (by decide +kernel) rfl
theorem rot_460000 : RotN 460000 10569800014612199143267710114 78519940544028589570025545411 := rot_455000.next 5000 _ _ (by decide +kernel) rfl
theorem rot_465000 : RotN 465000 10683991418926255161377434892 78504484348010279181056876020 := rot_460000.next 5000 _ _ (by decide +kernel) rfl
theorem rot_470000 : RotN 470000 10798160222342218556901364067 78488862083733300948633949107 := rot_465000.next 5000 _ _ (by decide +kernel) rfl
theorem rot_475000 : RotN 475000 10912306183347588038428607925 78473073784244967347619054780 := rot_470000.next 5000 _ _ (by decide +kernel) rfl
theorem rot_480000 : RotN 480000 11026429060478183112813647977 78457119482943821469269612297 := rot_475000.next 5000 _ _ (by decide +kernel) rfl
theorem rot_485000 : RotN 485000 11140528612318654878111520030 78440999213579566370014366910 := rot_480000.next 5000 _ _ (by decide +kernel) rfl
theorem rot_490000 : RotN 490000 11254604597502996713214728556 78424713010252993677386367073 := rot_485000.next 5000 _ _ (by decide +kernel) rfl
theorem rot_495000 : RotN 495000 11368656774715054863111580411 78408260907415911453263748586 := rot_490000.next 5000 _ _ (by decide +kernel) rfl
theorem rot_500000 : RotN 500000 11482684902689038918685846473 78391642939871071314570923579 := rot_495000.next 5000 _ _ (by decide +kernel) rfl
theorem rot_505000 : RotN 505000 11596688740210032189977883152 78374859142772094811594343404 := rot_500000.next 5000 _ _ (by decide +kernel) rfl
theorem rot_510000 : RotN 510000 11710668046114501971827571269 78357909551623399064068574535 := rot_505000.next 5000 _ _ (by decide +kernel) rfl
theorem rot_515000 : RotN 515000 11824622579290809700819656641 78340794202280121655189996120 := rot_510000.next 5000 _ _ (by decide +kernel) rfl
theorem rot_520000 : RotN 520000 11938552098679721002452307813 78323513130948044783716999635 := rot_515000.next 5000 _ _ (by decide +kernel) rfl
theorem rot_525000 : RotN 525000 12052456363274915627449937505 78306066374183518674317137706 := rot_520000.next 5000 _ _ (by decide +kernel) rfl
theorem rot_530000 : RotN 530000 12166335132123497276141569509 78288453968893384246323240721 := rot_525000.next 5000 _ _ (by decide +kernel) rfl
theorem rot_535000 : RotN 535000 12280188164326503309826269472 78270675952334895041062087228 := rot_530000.next 5000 _ _ (by decide +kernel) rfl
theorem rot_540000 : RotN 540000 12394015219039414348047396818 78252732362115638407920782863 := rot_535000.next 5000 _ _ (by decide +kernel) rfl
theorem rot_545000 : RotN 545000 12507816055472663750697676622 78234623236193455949317570907 := rot_540000.next 5000 _ _ (by decide +kernel) rfl
theorem rot_550000 : RotN 550000 12621590432892146983877333748 78216348612876363224745364869 := rot_545000.next 5000 _ _ (by decide +kernel) rfl
theorem rot_555000 : RotN 555000 12735338110619730868427777828 78197908530822468714057861159 := rot_550000.next 5000 _ _ (by decide +kernel) rfl
theorem rot_560000 : RotN 560000 12849058848033762710063574980 78179303029039892040169656607 := rot_555000.next 5000 _ _ (by decide +kernel) rfl
theorem rot_565000 : RotN 565000 12962752404569579310025693938 78160532146886681451343362619 := rot_560000.next 5000 _ _ (by decide +kernel) rfl
theorem rot_570000 : RotN 570000 13076418539720015855179265664 78141595924070730563238273633 := rot_565000.next 5000 _ _ (by decide +kernel) rfl
theorem rot_575000 : RotN 575000 13190057013035914686479351581 78122494400649694360896713576 := rot_570000.next 5000 _ _ (by decide +kernel) rfl
theorem rot_580000 : RotN 580000 13303667584126633944728472130 78103227617030904460845749951 := rot_575000.next 5000 _ _ (by decide +kernel) rfl
theorem rot_585000 : RotN 585000 13417250012660556092549907372 78083795613971283633493529317 := rot_580000.next 5000 _ _ (by decide +kernel) rfl
theorem rot_590000 : RotN 590000 13530804058365596311501043363 78064198432577259586001054286 := rot_585000.next 5000 _ _ (by decide +kernel) rfl
theorem rot_595000 : RotN 595000 13644329481029710773251301254 78044436114304678005811784163 := rot_590000.next 5000 _ _ (by decide +kernel) rfl
theorem rot_600000 : RotN 600000 13757826040501404783749453604 78024508700958714865023008727 := rot_595000.next 5000 _ _ (by decide +kernel) rfl
theorem rot_605000 : RotN 605000 13871293496690240799305400358 78004416234693787985784504350 := rot_600000.next 5000 _ _ (by decide +kernel) rfl
theorem rot_610000 : RotN 610000 13984731609567346313511748232 77984158758013467866911548508 := rot_605000.next 5000 _ _ (by decide +kernel) rfl
theorem rot_615000 : RotN 615000 14098140139165921613930810112 77963736313770387771900929063 := rot_610000.next 5000 _ _ (by decide +kernel) rfl
theorem rot_620000 : RotN 620000 14211518845581747407472916848 77943148945166153078540147767 := rot_615000.next 5000 _ _ (by decide +kernel) rfl
theorem rot_625000 : RotN 625000 14324867488973692313392211814 77922396695751249890301580661 := rot_620000.next 5000 _ _ (by decide +kernel) rfl
theorem rot_630000 : RotN 630000 14438185829564220222826378204 77901479609424952909714917530 := rot_625000.next 5000 _ _ (by decide +kernel) rfl
theorem rot_635000 : RotN 635000 14551473627639897523807031138 77880397730435232573912765978 := rot_630000.next 5000 _ _ (by decide +kernel) rfl
theorem rot_640000 : RotN 640000 14664730643551900190667792397 77859151103378661452545864581 := rot_635000.next 5000 _ _ (by decide +kernel) rfl
theorem rot_645000 : RotN 645000 14777956637716520736777350869 77837739773200319908265911232 := rot_640000.next 5000 _ _ (by decide +kernel) rfl
theorem rot_650000 : RotN 650000 14891151370615675029525102488 77816163785193701019975572495 := rot_645000.next 5000 _ _ (by decide +kernel) rfl
theorem rot_655000 : RotN 655000 15004314602797408966487253250 77794423185000614769046798673 := rot_650000.next 5000 _ _ (by decide +kernel) rfl
theorem rot_660000 : RotN 660000 15117446094876405011701564085 77772518018611091488710129464 := rot_655000.next 5000 _ _ (by decide +kernel) rfl
theorem rot_665000 : RotN 665000 15230545607534488590979211287 77750448332363284576819232754 := rot_660000.next 5000 _ _ (by decide +kernel) rfl
theorem rot_670000 : RotN 670000 15343612901521134345182534505 77728214172943372472196478024 := rot_665000.next 5000 _ _ (by decide +kernel) rfl
theorem rot_675000 : RotN 675000 15456647737653972240397745130 77705815587385459894766903477 := rot_670000.next 5000 _ _ (by decide +kernel) rfl
theorem rot_680000 : RotN 680000 15569649876819293533931970550 77683252623071478349689493218 := rot_675000.next 5000 _ _ (by decide +kernel) rfl
theorem rot_685000 : RotN 685000 15682619079972556595064314454 77660525327731085895696238104 := rot_680000.next 5000 _ _ (by decide +kernel) rfl
theorem rot_690000 : RotN 690000 15795555108138892579480920646 77637633749441566177851009840 := rot_685000.next 5000 _ _ (by decide +kernel) rfl
theorem rot_695000 : RotN 695000 15908457722413610956324337870 77614577936627726724941834434 := rot_690000.next 5000 _ _ (by decide +kernel) rfl
theorem rot_700000 : RotN 700000 16021326683962704886787794412 77591357938061796511721706703 := rot_695000.next 5000 _ _ (by decide +kernel) rfl
theorem rot_705000 : RotN 705000 16134161754023356453185304864 77567973802863322786214642200 := rot_700000.next 5000 _ _ (by decide +kernel) rfl
theorem rot_710000 : RotN 710000 16246962693904441737428849591 77544425580499067162305217988 := rot_705000.next 5000 _ _ (by decide +kernel) rfl
theorem rot_715000 : RotN 715000 16359729264987035747844183141 77520713320782900977831408081 := rot_710000.next 5000 _ _ (by decide +kernel) rfl
theorem rot_720000 : RotN 720000 16472461228724917193257151448 77496837073875699918402072426 := rot_715000.next 5000 _ _ (by decide +kernel) rfl
theorem rot_725000 : RotN 725000 16585158346645073103282718974 77472796890285237907162012560 := rot_720000.next 5000 _ _ (by decide +kernel) rfl
theorem rot_730000 : RotN 730000 16697820380348203293749232900 77448592820866080260729058865 := rot_725000.next 5000 _ _ (by decide +kernel) rfl
theorem rot_735000 : RotN 735000 16810447091509224676190779301 77424224916819476111529207440 := rot_730000.next 5000 _ _ (by decide +kernel) rfl
theorem rot_740000 : RotN 740000 16923038241877775410340815333 77399693229693250096757376251 := rot_735000.next 5000 _ _ (by decide +kernel) rfl
theorem rot_745000 : RotN 745000 17035593593278718898560594574 77374997811381693314192901393 := rot_740000.next 5000 _ _ (by decide +kernel) rfl
theorem rot_750000 : RotN 750000 17148112907612647621136236309 77350138714125453545100445392 := rot_745000.next 5000 _ _ (by decide +kernel) rfl
theorem rot_755000 : RotN 755000 17260595946856386811378626176 77325115990511424744448539934 := rot_750000.next 5000 _ _ (by decide +kernel) rfl
theorem rot_760000 : RotN 760000 17373042473063497969460675222 77299929693472635798679535189 := rot_755000.next 5000 _ _ (by decide +kernel) rfl
theorem rot_765000 : RotN 765000 17485452248364782213926804325 77274579876288138551266277440 := rot_760000.next 5000 _ _ (by decide +kernel) rfl
theorem rot_770000 : RotN 770000 17597825034968783469809865746 77249066592582895096292385236 := rot_765000.next 5000 _ _ (by decide +kernel) rfl
theorem rot_775000 : RotN 775000 17710160595162291492291057652 77223389896327664340294543505 := rot_770000.next 5000 _ _ (by decide +kernel) rfl
theorem rot_780000 : RotN 780000 17822458691310844724838737287 77197549841838887832606782277 := rot_775000.next 5000 _ _ (by decide +kernel) rfl
theorem rot_785000 : RotN 785000 17934719085859232990762386298 77171546483778574864448254227 := rot_780000.next 5000 _ _ (by decide +kernel) rfl
theorem rot_790000 : RotN 790000 18046941541332000017118336027 77145379877154186836997572733 := rot_785000.next 5000 _ _ (by decide +kernel) rfl
theorem rot_795000 : RotN 795000 18159125820333945789904214617 77119050077318520898698317048 := rot_790000.next 5000 _ _ (by decide +kernel) rfl
theorem rot_800000 : RotN 800000 18271271685550628739479433931 77092557139969592852041859433 := rot_795000.next 5000 _ _ (by decide +kernel) rfl
theorem rot_805000 : RotN 805000 18383378899748867755149394801 77065901121150519330075211557 := rot_800000.next 5000 _ _ (by decide +kernel) rfl
theorem rot_810000 : RotN 810000 18495447225777244027851449095 77039082077249399242883135000 := rot_805000.next 5000 _ _ (by decide +kernel) rfl
theorem rot_815000 : RotN 815000 18607476426566602719881022160 77012100064999194494295303231 := rot_810000.next 5000 _ _ (by decide +kernel) rfl
theorem rot_820000 : RotN 820000 18719466265130554460596663336 76984955141477609969070846630 := rot_815000.next 5000 _ _ (by decide +kernel) rfl
theorem rot_825000 : RotN 825000 18831416504565976667043162407 76957647364106972790814155728 := rot_820000.next 5000 _ _ (by decide +kernel) rfl
theorem rot_830000 : RotN 830000 18943326908053514688432238310 76930176790654110850877360292 := rot_825000.next 5000 _ _ (by decide +kernel) rfl
theorem rot_835000 : RotN 835000 19055197238858082773420680163 76902543479230230608506443787 := rot_830000.next 5000 _ _ (by decide +kernel) rfl
theorem rot_840000 : RotN 840000 19167027260329364859126195781 76874747488290794162489494822 := rot_835000.next 5000 _ _ (by decide +kernel) rfl
theorem rot_845000 : RotN 845000 19278816735902315180821598240 76846788876635395594567137801 := rot_840000.next 5000 _ _ (by decide +kernel) rfl
theorem rot_850000 : RotN 850000 19390565429097658701248342692 76818667703407636584866726017 := rot_845000.next 5000 _ _ (by decide +kernel) rfl
theorem rot_855000 : RotN 855000 19502273103522391358490805562 76790384028095001299623419684 := rot_850000.next 5000 _ _ (by decide +kernel) rfl
theorem rot_860000 : RotN 860000 19613939522870280131353082592 76761937910528730551452811717 := rot_855000.next 5000 _ _ (by decide +kernel) rfl
theorem rot_865000 : RotN 865000 19725564450922362921180468058 76733329410883695232441301989 := rot_860000.next 5000 _ _ (by decide +kernel) rfl
theorem rot_870000 : RotN 870000 19837147651547448249068166684 76704558589678269020321959546 := rot_865000.next 5000 _ _ (by decide +kernel) rfl
theorem rot_875000 : RotN 875000 19948688888702614767400178707 76675625507774200358005150465 := rot_870000.next 5000 _ _ (by decide +kernel) rfl
theorem rot_880000 : RotN 880000 20060187926433710584661692833 76646530226376483706734744798 := rot_875000.next 5000 _ _ (by decide +kernel) rfl
theorem rot_885000 : RotN 885000 20171644528875852402468715844 76617272807033230073142254008 := rot_880000.next 5000 _ _ (by decide +kernel) rfl
theorem rot_890000 : RotN 890000 20283058460253924463759065328 76587853311635536810472785956 := rot_885000.next 5000 _ _ (by decide +kernel) rfl
theorem rot_895000 : RotN 895000 20394429484883077311089251255 76558271802417356694258238786 := rot_890000.next 5000 _ _ (by decide +kernel) rfl
theorem rot_900000 : RotN 900000 20505757367169226353982174085 76528528341955366272714692188 := rot_895000.next 5000 _ _ (by decide +kernel) rfl
theorem rot_905000 : RotN 905000 20617041871609550244270970666 76498622993168833492142486074 := rot_900000.next 5000 _ _ (by decide +kernel) rfl
theorem rot_910000 : RotN 910000 20728282762792989058384745587 76468555819319484597609012418 := rot_905000.next 5000 _ _ (by decide +kernel) rfl
theorem rot_915000 : RotN 915000 20839479805400742285522334070 76438326884011370309195778185 := rot_910000.next 5000 _ _ (by decide +kernel) rfl
theorem rot_920000 : RotN 920000 20950632764206766620660652793 76407936251190731274092829947 := rot_915000.next 5000 _ _ (by decide +kernel) rfl
theorem rot_925000 : RotN 925000 21061741404078273561344608527 76377383985145862794825162496 := rot_920000.next 5000 _ _ (by decide +kernel) rfl
theorem rot_930000 : RotN 930000 21172805489976226807205948608 76346670150506978833897265013 := rot_925000.next 5000 _ _ (by decide +kernel) rfl
theorem rot_935000 : RotN 935000 21283824786955839461158855731 76315794812246075295143489720 := rot_930000.next 5000 _ _ (by decide +kernel) rfl
theorem rot_940000 : RotN 940000 21394799060167071031220507758 76284758035676792582073456704 := rot_935000.next 5000 _ _ (by decide +kernel) rfl
theorem rot_945000 : RotN 945000 21505728074855124231905246490 76253559886454277433503239179 := rot_940000.next 5000 _ _ (by decide +kernel) rfl
theorem rot_950000 : RotN 950000 21616611596360941584141421826 76222200430575044036764601712 := rot_945000.next 5000 _ _ (by decide +kernel) rfl
theorem rot_955000 : RotN 955000 21727449390121701812660405089 76190679734376834418786092542 := rot_950000.next 5000 _ _ (by decide +kernel) rfl
theorem rot_960000 : RotN 960000 21838241221671316039807693052 76158997864538478115341318255 := rot_955000.next 5000 _ _ (by decide +kernel) rfl
theorem rot_965000 : RotN 965000 21948986856640923774726455316 76127154888079751118761256209 := rot_960000.next 5000 _ _ (by decide +kernel) rfl
theorem rot_970000 : RotN 970000 22059686060759388696864310090 76095150872361234104408986557 := rot_965000.next 5000 _ _ (by decide +kernel) rfl
theorem rot_975000 : RotN 975000 22170338599853794232754548836 76062985885084169936216751666 := rot_970000.next 5000 _ _ (by decide +kernel) rfl
theorem rot_980000 : RotN 980000 22280944239849938925023467648 76030659994290320451586774866 := rot_975000.next 5000 _ _ (by decide +kernel) rfl
theorem rot_985000 : RotN 985000 22391502746772831592575902072 75998173268361822525958796019 := rot_980000.next 5000 _ _ (by decide +kernel) rfl
theorem rot_990000 : RotN 990000 22502013886747186280911505186 75965525776021043417348804530 := rot_985000.next 5000 _ _ (by decide +kernel) rfl
theorem rot_995000 : RotN 995000 22612477425997917001524750524 75932717586330435391164973701 := rot_990000.next 5000 _ _ (by decide +kernel) rfl
theorem rot_1000000 : RotN 1000000 22722893130850632259342090390 75899748768692389625608322817 := rot_995000.next 5000 _ _ (by decide +kernel) rfl
theorem rot_1005000 : RotN 1005000 22833260767732129367150146132 75866619392849089397967155432 := rot_1000000.next 5000 _ _ (by decide +kernel) rfl
theorem rot_1010000 : RotN 1010000 22943580103170888545969258453 75833329528882362552115843212 := rot_1005000.next 5000 _ _ (by decide +kernel) rfl
theorem rot_1015000 : RotN 1015000 23053850903797566810327179004 75799879247213533247530045019 := rot_1010000.next 5000 _ _ (by decide +kernel) rfl
theorem rot_1020000 : RotN 1020000 23164072936345491637388138885 75766268618603272990131971946 := rot_1015000.next 5000 _ _ (by decide +kernel) rfl
theorem rot_1025000 : RotN 1025000 23274245967651154418892987288 75732497714151450945280826456 := rot_1020000.next 5000 _ _ (by decide +kernel) rfl
theorem rot_1030000 : RotN 1030000 23384369764654703694866552821 75698566605296983533225063994 := rot_1025000.next 5000 _ _ (by decide +kernel) rfl
theorem rot_1035000 : RotN 1035000 23494444094400438168048841830 75664475363817683307334642392 := rot_1030000.next 5000 _ _ (by decide +kernel) rfl
theorem rot_1040000 : RotN 1040000 23604468724037299498007151432 75630224061830107115432941466 := rot_1035000.next 5000 _ _ (by decide +kernel) rfl
theorem rot_1045000 : RotN 1045000 23714443420819364873886641954 75595812771789403544549552798 := rot_1040000.next 5000 _ _ (by decide +kernel) rfl
theorem rot_1050000 : RotN 1050000 23824367952106339364757380711 75561241566489159649416653977 := rot_1045000.next 5000 _ _ (by decide +kernel) rfl
theorem rot_1055000 : RotN 1055000 23934242085364048046516340188 75526510519061246965033198403 := rot_1050000.next 5000 _ _ (by decide +kernel) rfl
theorem rot_1060000 : RotN 1060000 24044065588164927904303306196 75491619702975666803622664769 := rot_1055000.next 5000 _ _ (by decide +kernel) rfl
theorem rot_1065000 : RotN 1065000 24153838228188519509390126446 75456569192040394836311625208 := rot_1060000.next 5000 _ _ (by decide +kernel) rfl
theorem rot_1070000 : RotN 1070000 24263559773221958469503206853 75421359060401224959857903488 := rot_1065000.next 5000 _ _ (by decide +kernel) rfl
theorem rot_1075000 : RotN 1075000 24373229991160466651539642649 75385989382541612448758607646 := rot_1070000.next 5000 _ _ (by decide +kernel) rfl
theorem rot_1080000 : RotN 1080000 24482848650007843175637852254 75350460233282516393069832387 := rot_1075000.next 5000 _ _ (by decide +kernel) rfl
theorem rot_1085000 : RotN 1085000 24592415517876955179564066277 75314771687782241422271338583 := rot_1080000.next 5000 _ _ (by decide +kernel) rfl
theorem rot_1090000 : RotN 1090000 24701930362990228352376508854 75278923821536278715511026416 := rot_1085000.next 5000 _ _ (by decide +kernel) rfl
theorem rot_1095000 : RotN 1095000 24811392953680137236329597877 75242916710377146298565529185 := rot_1090000.next 5000 _ _ (by decide +kernel) rfl
theorem rot_1100000 : RotN 1100000 24920803058389695295980979683 75206750430474228627854763204 := rot_1095000.next 5000 _ _ (by decide +kernel) rfl
theorem rot_1105000 : RotN 1105000 25030160445672944753464707231 75170425058333615461849777576 := rot_1100000.next 5000 _ _ (by decide +kernel) rfl
theorem rot_1110000 : RotN 1110000 25139464884195446188894364784 75133940670797940020214754716 := rot_1105000.next 5000 _ _ (by decide +kernel) rfl
theorem rot_1115000 : RotN 1115000 25248716142734767904860439154 75097297345046216431025520084 := rot_1110000.next 5000 _ _ (by decide +kernel) rfl
theorem rot_1120000 : RotN 1120000 25357913990180975053986737073 75060495158593676466408424465 := rot_1115000.next 5000 _ _ (by decide +kernel) rfl
theorem rot_1125000 : RotN 1125000 25467058195537118528511148431 75023534189291605566944968183 := rot_1120000.next 5000 _ _ (by decide +kernel) rfl
theorem rot_1130000 : RotN 1130000 25576148527919723610856559588 74986414515327178155189041024 := rot_1125000.next 5000 _ _ (by decide +kernel) rfl
theorem rot_1135000 : RotN 1135000 25685184756559278384158226071 74949136215223292238645155220 := rot_1130000.next 5000 _ _ (by decide +kernel) rfl
theorem rot_1140000 : RotN 1140000 25794166650800721901714421721 74911699367838403302557552228 := rot_1135000.next 5000 _ _ (by decide +kernel) rfl
theorem rot_1145000 : RotN 1145000 25903093980103932114327691330 74874104052366357492861566269 := rot_1140000.next 5000 _ _ (by decide +kernel) rfl
theorem rot_1150000 : RotN 1150000 26011966514044213554504546488 74836350348336224089650128831 := rot_1145000.next 5000 _ _ (by decide +kernel) rfl
theorem rot_1155000 : RotN 1155000 26120784022312784776481957848 74798438335612127271509799830 := rot_1150000.next 5000 _ _ (by decide +kernel) rfl
theorem rot_1160000 : RotN 1160000 26229546274717265551049513812 74760368094393077171082210796 := rot_1155000.next 5000 _ _ (by decide +kernel) rfl
theorem rot_1165000 : RotN 1165000 26338253041182163814136635471 74722139705212800222208304812 := rot_1160000.next 5000 _ _ (by decide +kernel) rfl
theorem rot_1170000 : RotN 1170000 26446904091749362368134756368 74683753248939568799014256520 := rot_1165000.next 5000 _ _ (by decide +kernel) rfl
theorem rot_1175000 : RotN 1175000 26555499196578605334924900346 74645208806776030147299453614 := rot_1170000.next 5000 _ _ (by decide +kernel) rfl
theorem rot_1180000 : RotN 1180000 26664038125947984359581616095 74606506460259034608588417775 := rot_1175000.next 5000 _ _ (by decide +kernel) rfl
theorem rot_1185000 : RotN 1185000 26772520650254424563724752876 74567646291259463137210040092 := rot_1180000.next 5000 _ _ (by decide +kernel) rfl
theorem rot_1190000 : RotN 1190000 26880946540014170247491093310 74528628381982054110769000322 := rot_1185000.next 5000 _ _ (by decide +kernel) rfl
theorem rot_1195000 : RotN 1195000 26989315565863270339098389517 74489452814965229434375735664 := rot_1190000.next 5000 _ _ (by decide +kernel) rfl
theorem rot_1200000 : RotN 1200000 27097627498558063590974883844 74450119673080919939002817175 := rot_1195000.next 5000 _ _ (by decide +kernel) rfl
theorem rot_1205000 : RotN 1205000 27205882108975663521427930707 74410629039534390074337086541 := rot_1200000.next 5000 _ _ (by decide +kernel) rfl
theorem rot_1210000 : RotN 1210000 27314079168114443100825875036 74370980997864061896498396763 := rot_1205000.next 5000 _ _ (by decide +kernel) rfl
theorem rot_1215000 : RotN 1215000 27422218447094519181267882514 74331175631941338350997293901 := rot_1210000.next 5000 _ _ (by decide +kernel) rfl
theorem rot_1220000 : RotN 1220000 27530299717158236668716960439 74291213025970425851305465876 := rot_1215000.next 5000 _ _ (by decide +kernel) rfl
theorem rot_1225000 : RotN 1225000 27638322749670652436571951910 74251093264488156153414276013 := rot_1220000.next 5000 _ _ (by decide +kernel) rfl
theorem rot_1230000 : RotN 1230000 27746287316120018979654833356 74210816432363807526758187207 := rot_1225000.next 5000 _ _ (by decide +kernel) rfl
theorem rot_1235000 : RotN 1235000 27854193188118267807590194812 74170382614798925221881371678 := rot_1230000.next 5000 _ _ (by decide +kernel) rfl
theorem rot_1240000 : RotN 1240000 27962040137401492576554332862 74129791897327141235227288419 := rot_1235000.next 5000 _ _ (by decide +kernel) rfl
theorem rot_1245000 : RotN 1245000 28069827935830431958371940707 74089044365813993371432498160 := rot_1240000.next 5000 _ _ (by decide +kernel) rfl
theorem rot_1250000 : RotN 1250000 28177556355390952245938934640 74048140106456743603507470245 := rot_1245000.next 5000 _ _ (by decide +kernel) rfl
theorem rot_1255000 : RotN 1255000 28285225168194529693950514037 74007079205784195731288623340 := rot_1250000.next 5000 _ _ (by decide +kernel) rfl
theorem rot_1260000 : RotN 1260000 28392834146478732593914112070 73965861750656512338547323497 := rot_1255000.next 5000 _ _ (by decide +kernel) rfl
theorem rot_1265000 : RotN 1265000 28500383062607703082427456930 73924487828265031049143049474 := rot_1260000.next 5000 _ _ (by decide +kernel) rfl
theorem rot_1270000 : RotN 1270000 28607871689072638681702526385 73882957526132080082609415939 := rot_1265000.next 5000 _ _ (by decide +kernel) rfl
theorem rot_1275000 : RotN 1275000 28715299798492273571316746290 73841270932110793109563228307 := rot_1270000.next 5000 _ _ (by decide +kernel) rfl
theorem rot_1280000 : RotN 1280000 28822667163613359590173351057 73799428134384923407328223663 := rot_1275000.next 5000 _ _ (by decide +kernel) rfl
theorem rot_1285000 : RotN 1285000 28929973557311146967653395719 73757429221468657316166632775 := rot_1280000.next 5000 _ _ (by decide +kernel) rfl
theorem rot_1290000 : RotN 1290000 29037218752589864782942481215 73715274282206426996513177618 := rot_1285000.next 5000 _ _ (by decide +kernel) rfl
theorem rot_1295000 : RotN 1295000 29144402522583201151515830715 73672963405772722487607597079 := rot_1290000.next 5000 _ _ (by decide +kernel) rfl
theorem rot_1300000 : RotN 1300000 29251524640554783137765930628 73630496681671903067923272266 := rot_1295000.next 5000 _ _ (by decide +kernel) rfl
theorem rot_1305000 : RotN 1305000 29358584879898656392757530069 73587874199738007917790998793 := rot_1300000.next 5000 _ _ (by decide +kernel) rfl
theorem rot_1310000 : RotN 1310000 29465583014139764516095374191 73545096050134566084618430240 := rot_1305000.next 5000 _ _ (by decide +kernel) rfl
theorem rot_1315000 : RotN 1315000 29572518816934428140890629525 73502162323354405751107192193 := rot_1310000.next 5000 _ _ (by decide +kernel) rfl
theorem rot_1320000 : RotN 1320000 29679392062070823740812546257 73459073110219462806871140071 := rot_1315000.next 5000 _ _ (by decide +kernel) rfl
theorem rot_1325000 : RotN 1325000 29786202523469462158212489418 73415828501880588723860708588 := rot_1320000.next 5000 _ _ (by decide +kernel) rfl
theorem rot_1330000 : RotN 1330000 29892949975183666852308061738 73372428589817357735999772539 := rot_1325000.next 5000 _ _ (by decide +kernel) rfl
theorem rot_1335000 : RotN 1335000 29999634191400051866415632202 73328873465837873323442911033 := rot_1330000.next 5000 _ _ (by decide +kernel) rfl
theorem rot_1340000 : RotN 1340000 30106254946438999513220179829 73285163222078574001862437614 := rot_1335000.next 5000 _ _ (by decide +kernel) rfl
theorem rot_1345000 : RotN 1345000 30212812014755137777071957651 73241297951004038417176029915 := rot_1340000.next 5000 _ _ (by decide +kernel) rfl
theorem rot_1350000 : RotN 1350000 30319305170937817432300080702 73197277745406789746127260467 := rot_1345000.next 5000 _ _ (by decide +kernel) rfl
theorem rot_1355000 : RotN 1355000 30425734189711588876533743152 73153102698407099403132800130 := rot_1350000.next 5000 _ _ (by decide +kernel) rfl
theorem rot_1360000 : RotN 1360000 30532098845936678678022371879 73108772903452790053811531594 := rot_1355000.next 5000 _ _ (by decide +kernel) rfl
theorem rot_1365000 : RotN 1365000 30638398914609465835946629107 73064288454319037935612278280 := rot_1360000.next 5000 _ _ (by decide +kernel) rfl
theorem rot_1370000 : RotN 1370000 30744634170862957752712783791 73019649445108174485958319271 := rot_1365000.next 5000 _ _ (by decide +kernel) rfl
theorem rot_1375000 : RotN 1375000 30850804389967265917223580716 72974855970249487278328325236 := rot_1370000.next 5000 _ _ (by decide +kernel) rfl
theorem rot_1380000 : RotN 1380000 30956909347330081298119347819 72929908124499020266694815910 := rot_1375000.next 5000 _ _ (by decide +kernel) rfl
theorem rot_1385000 : RotN 1385000 31062948818497149445983695552 72884806002939373338742700369 := rot_1380000.next 5000 _ _ (by decide +kernel) rfl
theorem rot_1390000 : RotN 1390000 31168922579152745303508777671 72839549700979501178291926059 := rot_1385000.next 5000 _ _ (by decide +kernel) rfl
theorem rot_1395000 : RotN 1395000 31274830405120147722615701371 72794139314354511437349721948 := rot_1390000.next 5000 _ _ (by decide +kernel) rfl
theorem rot_1400000 : RotN 1400000 31380672072362113687526293158 72748574939125462218219382705 := rot_1395000.next 5000 _ _ (by decide +kernel) rfl
theorem rot_1405000 : RotN 1405000 31486447356981352242783050654 72702856671679158866093999776 := rot_1400000.next 5000 _ _ (by decide +kernel) rfl
theorem rot_1410000 : RotN 1410000 31592156035220998125214733054 72656984608727950072565003971 := rot_1405000.next 5000 _ _ (by decide +kernel) rfl
theorem rot_1415000 : RotN 1415000 31697797883465085098845670317 72610958847309523290476841786 := rot_1410000.next 5000 _ _ (by decide +kernel) rfl
theorem rot_1420000 : RotN 1420000 31803372678239018991747499118 72564779484786699460560564913 := rot_1415000.next 5000 _ _ (by decide +kernel) rfl
theorem rot_1425000 : RotN 1425000 31908880196210050433832664033 72518446618847227050280567412 := rot_1420000.next 5000 _ _ (by decide +kernel) rfl
theorem rot_1430000 : RotN 1430000 32014320214187747294589655669 72471960347503575405330160612 := rot_1425000.next 5000 _ _ (by decide +kernel) rfl
theorem rot_1435000 : RotN 1435000 32119692509124466819760590932 72425320769092727414213129798 := rot_1430000.next 5000 _ _ (by decide +kernel) rfl
theorem rot_1440000 : RotN 1440000 32224996858115827465962378905 72378527982275971486349869516 := rot_1435000.next 5000 _ _ (by decide +kernel) rfl
theorem rot_1445000 : RotN 1445000 32330233038401180432253354180 72331582086038692844148146800 := rot_1440000.next 5000 _ _ (by decide +kernel) rfl
theorem rot_1450000 : RotN 1450000 32435400827364080887647899786 72284483179690164129479992580 := rot_1445000.next 5000 _ _ (by decide +kernel) rfl
theorem rot_1455000 : RotN 1455000 32540500002532758893582226865 72237231362863335325007672011 := rot_1450000.next 5000 _ _ (by decide +kernel) rfl
theorem rot_1460000 : RotN 1460000 32645530341580590020335121657 72189826735514622990803134144 := rot_1455000.next 5000 _ _ (by decide +kernel) rfl
theorem rot_1465000 : RotN 1465000 32750491622326565656408118704 72142269397923698816706788855 := rot_1460000.next 5000 _ _ (by decide +kernel) rfl
theorem rot_1470000 : RotN 1470000 32855383622735763009870209071 72094559450693277490872907516 := rot_1465000.next 5000 _ _ (by decide +kernel) rfl
theorem rot_1475000 : RotN 1475000 32960206120919814800672842906 72046696994748903884950389858 := rot_1470000.next 5000 _ _ (by decide +kernel) rfl
theorem rot_1480000 : RotN 1480000 33064958895137378642941640306 71998682131338739556349084922 := rot_1475000.next 5000 _ _ (by decide +kernel) rfl
theorem rot_1485000 : RotN 1485000 33169641723794606116251879913 71950514962033348568043299009 := rot_1480000.next 5000 _ _ (by decide +kernel) rfl
theorem rot_1490000 : RotN 1490000 33274254385445611524895492474 71902195588725482626365567238 := rot_1485000.next 5000 _ _ (by decide +kernel) rfl
theorem rot_1495000 : RotN 1495000 33378796658792940344147947045 71853724113629865537245207461 := rot_1490000.next 5000 _ _ (by decide +kernel) rfl
theorem rot_1500000 : RotN 1500000 33483268322688037352544079001 71805100639282976981347617965 := rot_1495000.next 5000 _ _ (by decide +kernel) rfl
theorem rot_1505000 : RotN 1505000 33587669156131714449172573963 71756325268542835608571720163 := rot_1500000.next 5000 _ _ (by decide +kernel) rfl
theorem rot_1510000 : RotN 1510000 33691998938274618154999487504 71707398104588781452364388173 := rot_1505000.next 5000 _ _ (by decide +kernel) rfl
theorem rot_1515000 : RotN 1515000 33796257448417696797231849181 71658319250921257664312145717 := rot_1510000.next 5000 _ _ (by decide +kernel) rfl
theorem rot_1520000 : RotN 1520000 33900444466012667375733069513 71609088811361591569471848346 := rot_1515000.next 5000 _ _ (by decide +kernel) rfl
theorem rot_1525000 : RotN 1525000 34004559770662482110502542122 71559706890051775042903506265 := rot_1520000.next 5000 _ _ (by decide +kernel) rfl
theorem rot_1530000 : RotN 1530000 34108603142121794669232506637 71510173591454244207869839281 := rot_1525000.next 5000 _ _ (by decide +kernel) rfl
theorem rot_1535000 : RotN 1535000 34212574360297426073955915596 71460489020351658456168589316 := rot_1530000.next 5000 _ _ (by decide +kernel) rfl
theorem rot_1540000 : RotN 1540000 34316473205248830285799727052 71410653281846678791065051015 := rot_1535000.next 5000 _ _ (by decide +kernel) rfl
theorem rot_1545000 : RotN 1545000 34420299457188559466858726140 71360666481361745493293713181 := rot_1540000.next 5000 _ _ (by decide +kernel) rfl
theorem rot_1550000 : RotN 1550000 34524052896482728918205660524 71310528724638855110599336146 := rot_1545000.next 5000 _ _ (by decide +kernel) rfl
theorem rot_1555000 : RotN 1555000 34627733303651481693054161489 71260240117739336771289220845 := rot_1550000.next 5000 _ _ (by decide +kernel) rfl
theorem rot_1560000 : RotN 1560000 34731340459369452884091607914 71209800767043627822269855932 := rot_1555000.next 5000 _ _ (by decide +kernel) rfl
theorem rot_1565000 : RotN 1565000 34834874144466233583999781455 71159210779251048792042557507 := rot_1560000.next 5000 _ _ (by decide +kernel) rfl
theorem rot_1570000 : RotN 1570000 34938334139926834518181850568 71108470261379577679134144465 := rot_1565000.next 5000 _ _ (by decide +kernel) rfl
theorem rot_1575000 : RotN 1575000 35041720226892149348714916238 71057579320765623566440119333 := rot_1570000.next 5000 _ _ (by decide +kernel) rfl
theorem rot_1580000 : RotN 1580000 35145032186659417648548046480 71006538065063799561959250592 := rot_1575000.next 5000 _ _ (by decide +kernel) rfl
theorem rot_1585000 : RotN 1585000 35248269800682687544966425124 70955346602246695066399877204 := rot_1580000.next 5000 _ _ (by decide +kernel) rfl
theorem rot_1590000 : RotN 1590000 35351432850573278031342939304 70904005040604647368139679954 := rot_1585000.next 5000 _ _ (by decide +kernel) rfl
theorem rot_1595000 : RotN 1595000 35454521118100240946199232507 70852513488745512566022087329 := rot_1590000.next 5000 _ _ (by decide +kernel) rfl
theorem rot_1600000 : RotN 1600000 35557534385190822618598952907 70800872055594435820473905770 := rot_1595000.next 5000 _ _ (by decide +kernel) rfl
theorem rot_1605000 : RotN 1605000 35660472433930925178896633764 70749080850393620933430184133 := rot_1600000.next 5000 _ _ (by decide +kernel) rfl
theorem rot_1610000 : RotN 1610000 35763335046565567533866349139 70697139982702099257553743114 := rot_1605000.next 5000 _ _ (by decide +kernel) rfl
theorem rot_1615000 : RotN 1615000 35866122005499346005234999385 70645049562395497935238218481 := rot_1610000.next 5000 _ _ (by decide +kernel) rfl
theorem rot_1620000 : RotN 1620000 35968833093296894630645792401 70592809699665807467884884974 := rot_1615000.next 5000 _ _ (by decide +kernel) rfl
theorem rot_1625000 : RotN 1625000 36071468092683345126078200176 70540420505021148615944944513 := rot_1620000.next 5000 _ _ (by decide +kernel) rfl
theorem rot_1630000 : RotN 1630000 36174026786544786508751387971 70487882089285538630220377777 := rot_1625000.next 5000 _ _ (by decide +kernel) rfl
theorem rot_1635000 : RotN 1635000 36276508957928724379538829259 70435194563598656814917873299 := rot_1630000.next 5000 _ _ (by decide +kernel) rfl
theorem rot_1640000 : RotN 1640000 36378914390044539863922542111 70382358039415609422951761876 := rot_1635000.next 5000 _ _ (by decide +kernel) rfl
theorem rot_1645000 : RotN 1645000 36481242866263948210516103674 70329372628506693883993295413 := rot_1640000.next 5000 _ _ (by decide +kernel) rfl
theorem rot_1650000 : RotN 1650000 36583494170121457046186324507 70276238442957162365765023025 := rot_1645000.next 5000 _ _ (by decide +kernel) rfl
theorem rot_1655000 : RotN 1655000 36685668085314824286804190111 70222955595166984669080425539 := rot_1650000.next 5000 _ _ (by decide +kernel) rfl
theorem rot_1660000 : RotN 1660000 36787764395705515702656406319 70169524197850610457130380374 := rot_1655000.next 5000 _ _ (by decide +kernel) rfl
theorem rot_1665000 : RotN 1665000 36889782885319162137549615637 70115944364036730819519436216 := rot_1660000.next 5000 _ _ (by decide +kernel) rfl
theorem rot_1670000 : RotN 1670000 36991723338346016380640083378 70062216207068039171556284999 := rot_1665000.next 5000 _ _ (by decide +kernel) rfl
theorem rot_1675000 : RotN 1675000 37093585539141409690022388282 70008339840600991489304223718 := rot_1670000.next 5000 _ _ (by decide +kernel) rfl
theorem rot_1680000 : RotN 1680000 37195369272226207967111387892 69954315378605565880898805169 := rot_1675000.next 5000 _ _ (by decide +kernel) rfl
theorem rot_1685000 : RotN 1685000 37297074322287267580852468507 69900142935365021494641279932 := rot_1680000.next 5000 _ _ (by decide +kernel) rfl
theorem rot_1690000 : RotN 1690000 37398700474177890840795829790 69845822625475656764377834432 := rot_1685000.next 5000 _ _ (by decide +kernel) rfl
theorem rot_1695000 : RotN 1695000 37500247512918281118071296655 69791354563846566992676033351 := rot_1690000.next 5000 _ _ (by decide +kernel) rfl
theorem rot_1700000 : RotN 1700000 37601715223695997613300897125 69736738865699401272311273669 := rot_1695000.next 5000 _ _ (by decide +kernel) rfl
theorem rot_1705000 : RotN 1705000 37703103391866409770487189910 69681975646568118746577458832 := rot_1700000.next 5000 _ _ (by decide +kernel) rfl
theorem rot_1710000 : RotN 1710000 37804411802953151335916075741 69627065022298744208937499222 := rot_1705000.next 5000 _ _ (by decide +kernel) rfl
theorem rot_1715000 : RotN 1715000 37905640242648574061113577393 69572007109049123042530643359 := rot_1710000.next 5000 _ _ (by decide +kernel) rfl
theorem rot_1720000 : RotN 1720000 38006788496814201048896824951 69516802023288675500055039928 := rot_1715000.next 5000 _ _ (by decide +kernel) rfl
theorem rot_1725000 : RotN 1725000 38107856351481179741560239690 69461449881798150324545327285 := rot_1720000.next 5000 _ _ (by decide +kernel) rfl
theorem rot_1730000 : RotN 1730000 38208843592850734550238665788 69405950801669377711566439763 := rot_1725000.next 5000 _ _ (by decide +kernel) rfl
theorem rot_1735000 : RotN 1735000 38309750007294619124489958132 69350304900305021613346214930 := rot_1730000.next 5000 _ _ (by decide +kernel) rfl
theorem rot_1740000 : RotN 1740000 38410575381355568261140296499 69294512295418331385370776745 := rot_1735000.next 5000 _ _ (by decide +kernel) rfl
theorem rot_1745000 : RotN 1745000 38511319501747749451436258291 69238573105032892775968061361 := rot_1740000.next 5000 _ _ (by decide +kernel) rfl
theorem rot_1750000 : RotN 1750000 38611982155357214065548448149 69182487447482378259406241481 := rot_1745000.next 5000 _ _ (by decide +kernel) rfl
theorem rot_1755000 : RotN 1755000 38712563129242348173472249144 69126255441410296713035194177 := rot_1750000.next 5000 _ _ (by decide +kernel) rfl
theorem rot_1760000 : RotN 1760000 38813062210634323001372030088 69069877205769742439000545439 := rot_1755000.next 5000 _ _ (by decide +kernel) rfl
theorem rot_1765000 : RotN 1765000 38913479186937545022415914000 69013352859823143531061209474 := rot_1760000.next 5000 _ _ (by decide +kernel) rfl
theorem rot_1770000 : RotN 1770000 39013813845730105681148986465 68956682523142009587042728029 := rot_1765000.next 5000 _ _ (by decide +kernel) rfl
theorem rot_1775000 : RotN 1775000 39114065974764230750453597701 68899866315606678767460097924 := rot_1770000.next 5000 _ _ (by decide +kernel) rfl
theorem rot_1780000 : RotN 1780000 39214235361966729320146189381 68842904357406064200845158799 := rot_1775000.next 5000 _ _ (by decide +kernel) rfl
theorem rot_1785000 : RotN 1785000 39314321795439442416260856453 68785796769037399736314994709 := rot_1780000.next 5000 _ _ (by decide +kernel) rfl
theorem rot_1790000 : RotN 1790000 39414325063459691250070635125 68728543671305985043919184295 := rot_1785000.next 5000 _ _ (by decide +kernel) rfl
theorem rot_1795000 : RotN 1795000 39514244954480725095898292406 68671145185324930063305113771 := rot_1790000.next 5000 _ _ (by decide +kernel) rfl
theorem rot_1800000 : RotN 1800000 39614081257132168796769176610 68613601432514898801241945494 := rot_1795000.next 5000 _ _ (by decide +kernel) rfl
theorem rot_1800001 : RotN 1800001 39614101216018103612977511171 68613589909242861073359214917 := rot_1800000.third _ _ (by decide +kernel)
theorem rot_1805000 : RotN 1805000 39713833760220469896959476223 68555912534603852478545212762 := rot_1800001.next 4999 _ _ (by decide +kernel) rfl
theorem rot_1810000 : RotN 1810000 39813502252729345400494024327 68498078613626792026945386827 := rot_1805000.next 5000 _ _ (by decide +kernel) rfl
theorem rot_1815000 : RotN 1815000 39913086523820228154648575032 68440099791925499936445138546 := rot_1810000.next 5000 _ _ (by decide +kernel) rfl
theorem rot_1820000 : RotN 1820000 40012586362832712857512274522 68381976192148281453711389914 := rot_1815000.next 5000 _ _ (by decide +kernel) rfl
theorem rot_1825000 : RotN 1825000 40112001559285001688666841692 68323707937249705132049623894 := rot_1820000.next 5000 _ _ (by decide +kernel) rfl
theorem rot_1830000 : RotN 1830000 40211331902874349562039773066 68265295150490342733509292939 := rot_1825000.next 5000 _ _ (by decide +kernel) rfl
theorem rot_1835000 : RotN 1835000 40310577183477508999989683842 68206737955436508483670537055 := rot_1830000.next 5000 _ _ (by decide +kernel) rfl
theorem rot_1840000 : RotN 1840000 40409737191151174627682700163 68148036475959997679663790724 := rot_1835000.next 5000 _ _ (by decide +kernel) rfl
theorem rot_1845000 : RotN 1845000 40508811716132427286819618861 68089190836237824651975227710 := rot_1840000.next 5000 _ _ (by decide +kernel) rfl
theorem rot_1850000 : RotN 1850000 40607800548839177767774358295 68030201160751960080592358233 := rot_1845000.next 5000 _ _ (by decide +kernel) rfl
theorem rot_1855000 : RotN 1855000 40706703479870610159205029060 67971067574289067666045459767 := rot_1850000.next 5000 _ _ (by decide +kernel) rfl
theorem rot_1860000 : RotN 1860000 40805520300007624814199764225 67911790201940240155901887365 := rot_1855000.next 5000 _ _ (by decide +kernel) rfl
theorem rot_1865000 : RotN 1865000 40904250800213280932020258844 67852369169100734727271672102 := rot_1860000.next 5000 _ _ (by decide +kernel) rfl
theorem rot_1870000 : RotN 1870000 41002894771633238754506782275 67792804601469707725884179562 := rot_1865000.next 5000 _ _ (by decide +kernel) rfl
theorem rot_1875000 : RotN 1875000 41101452005596201376209241569 67733096625049948762296960553 := rot_1870000.next 5000 _ _ (by decide +kernel) rfl
theorem rot_1880000 : RotN 1880000 41199922293614356167309691552 67673245366147614165799286753 := rot_1875000.next 5000 _ _ (by decide +kernel) rfl
theorem rot_1885000 : RotN 1885000 41298305427383815808402506438 67613250951371959796574222062 := rot_1880000.next 5000 _ _ (by decide +kernel) rfl
theorem rot_1890000 : RotN 1890000 41396601198785058936199248276 67553113507635073216684439031 := rot_1885000.next 5000 _ _ (by decide +kernel) rfl
theorem rot_1895000 : RotN 1895000 41494809399883370399226091540 67492833162151605220448344801 := rot_1890000.next 5000 _ _ (by decide +kernel) rfl
theorem rot_1900000 : RotN 1900000 41592929822929281122582487534 67432410042438500724774437019 := rot_1895000.next 5000 _ _ (by decide +kernel) rfl
theorem rot_1905000 : RotN 1905000 41690962260359007580830578981 67371844276314729020023164003 := rot_1900000.next 5000 _ _ (by decide +kernel) rfl
theorem rot_1910000 : RotN 1910000 41788906504794890878085705152 67311135991901013381966915731 := rot_1905000.next 5000 _ _ (by decide +kernel) rfl
theorem rot_1915000 : RotN 1915000 41886762349045835434379168001 67250285317619560045420124470 := rot_1910000.next 5000 _ _ (by decide +kernel) rfl
theorem rot_1920000 : RotN 1920000 41984529586107747277365262694 67189292382193786540112803339 := rot_1915000.next 5000 _ _ (by decide +kernel) rfl
theorem rot_1925000 : RotN 1925000 42082208009163971938445411287 67128157314648049389382201199 := rot_1920000.next 5000 _ _ (by decide +kernel) rfl
theorem rot_1930000 : RotN 1930000 42179797411585731952383074532 67066880244307371172258598862 := rot_1925000.next 5000 _ _ (by decide +kernel) rfl
theorem rot_1935000 : RotN 1935000 42277297586932563959483956088 67005461300797166949522619996 := rot_1930000.next 5000 _ _ (by decide +kernel) rfl
theorem rot_1940000 : RotN 1940000 42374708328952755409416853622 66943900614042970054312773711 := rot_1935000.next 5000 _ _ (by decide +kernel) rfl
theorem rot_1945000 : RotN 1945000 42472029431583780865751354529 66882198314270157247863291412 := rot_1940000.next 5000 _ _ (by decide +kernel) rfl
theorem rot_1950000 : RotN 1950000 42569260688952737910289418129 66820354532003673240953663015 := rot_1945000.next 5000 _ _ (by decide +kernel) rfl
theorem rot_1955000 : RotN 1955000 42666401895376782646268733194 66758369398067754581652619266 := rot_1950000.next 5000 _ _ (by decide +kernel) rfl
theorem rot_1960000 : RotN 1960000 42763452845363564799516587677 66696243043585652909940647508 := rot_1955000.next 5000 _ _ (by decide +kernel) rfl
theorem rot_1965000 : RotN 1965000 42860413333611662416633839178 66633975599979357579796467881 := rot_1960000.next 5000 _ _ (by decide +kernel) rfl
theorem rot_1970000 : RotN 1970000 42957283155011016159289425300 66571567198969317649334234522 := rot_1965000.next 5000 _ _ (by decide +kernel) rfl
theorem rot_1975000 : RotN 1975000 43054062104643363193706709190 66509017972574163239579563588 := rot_1970000.next 5000 _ _ (by decide +kernel) rfl
theorem rot_1980000 : RotN 1980000 43150749977782670674423810829 66446328053110426262473824785 := rot_1975000.next 5000 _ _ (by decide +kernel) rfl
theorem rot_1985000 : RotN 1985000 43247346569895568821410933309 66383497573192260518697468890 := rot_1980000.next 5000 _ _ (by decide +kernel) rfl
theorem rot_1990000 : RotN 1990000 43343851676641783589628553403 66320526665731161165904494726 := rot_1985000.next 5000 _ _ (by decide +kernel) rfl
theorem rot_1995000 : RotN 1995000 43440265093874568930111208090 66257415463935683557961492956 := rot_1990000.next 5000 _ _ (by decide +kernel) rfl
theorem rot_2000000 : RotN 2000000 43536586617641138641662472511 66194164101311161455786033129 := rot_1995000.next 5000 _ _ (by decide +kernel) rfl
theorem rot_2005000 : RotN 2005000 43632816044183097812247590963 66130772711659424610380490610 := rot_2000000.next 5000 _ _ (by decide +kernel) rfl
theorem rot_2010000 : RotN 2010000 43728953169936873849171090672 66067241429078515718658737904 := rot_2005000.next 5000 _ _ (by decide +kernel) rfl
theorem rot_2015000 : RotN 2015000 43824997791534147097127577560 66003570387962406752664451026 := rot_2010000.next 5000 _ _ (by decide +kernel) rfl
theorem rot_2020000 : RotN 2020000 43920949705802281043214785710 65939759723000714662781108160 := rot_2015000.next 5000 _ _ (by decide +kernel) rfl
theorem rot_2025000 : RotN 2025000 44016808709764752107998824847 65875809569178416455535081381 := rot_2020000.next 5000 _ _ (by decide +kernel) rfl
theorem rot_2030000 : RotN 2030000 44112574600641579021722447214 65811720061775563646594545388 := rot_2025000.next 5000 _ _ (by decide +kernel) rfl
theorem rot_2035000 : RotN 2035000 44208247175849751784748031806 65747491336366996089568248806 := rot_2030000.next 5000 _ _ (by decide +kernel) rfl
theorem rot_2040000 : RotN 2040000 44303826233003660211327863651 65683123528822055181209514367 := rot_2035000.next 5000 _ _ (by decide +kernel) rfl
theorem rot_2045000 : RotN 2045000 44399311569915522055795167414 65618616775304296443632153146 := rot_2040000.next 5000 _ _ (by decide +kernel) rfl
theorem rot_2050000 : RotN 2050000 44494702984595810720270238007 65553971212271201484146295795 := rot_2045000.next 5000 _ _ (by decide +kernel) rfl
theorem rot_2055000 : RotN 2055000 44590000275253682542976895980 65489186976473889333323460696 := rot_2050000.next 5000 _ _ (by decide +kernel) rfl
theorem rot_2060000 : RotN 2060000 44685203240297403666265382465 65424264204956827161901493966 := rot_2055000.next 5000 _ _ (by decide +kernel) rfl
theorem rot_2065000 : RotN 2065000 44780311678334776483438697746 65359203035057540377141330064 := rot_2060000.next 5000 _ _ (by decide +kernel) rfl
theorem rot_2070000 : RotN 2070000 44875325388173565663480279204 65294003604406322099248835203 := rot_2065000.next 5000 _ _ (by decide +kernel) rfl
theorem rot_2075000 : RotN 2075000 44970244168821923752781805665 65228666050925942018476306077 := rot_2070000.next 5000 _ _ (by decide +kernel) rfl
theorem rot_2080000 : RotN 2080000 45065067819488816352970811475 65163190512831354633519507667 := rot_2075000.next 5000 _ _ (by decide +kernel) rfl
theorem rot_2085000 : RotN 2085000 45159796139584446873938689854 65097577128629406871827441552 := rot_2080000.next 5000 _ _ (by decide +kernel) rfl
theorem rot_2090000 : RotN 2090000 45254428928720680861170563365 65031826037118545092443345058 := rot_2085000.next 5000 _ _ (by decide +kernel) rfl
theorem rot_2095000 : RotN 2095000 45348965986711469896479400493 64965937377388521471996725954 := rot_2090000.next 5000 _ _ (by decide +kernel) rfl
theorem rot_2100000 : RotN 2100000 45443407113573275071247659155 64899911288820099774467544304 := rot_2095000.next 5000 _ _ (by decide +kernel) rfl
theorem rot_2105000 : RotN 2105000 45537752109525490031280642606 64833747911084760505344954764 := rot_2100000.next 5000 _ _ (by decide +kernel) rfl
theorem rot_2110000 : RotN 2110000 45632000774990863592376659355 64767447384144405450804326304 := rot_2105000.next 5000 _ _ (by decide +kernel) rfl
theorem rot_2115000 : RotN 2115000 45726152910595921925719986886 64701009848251061602527556650 := rot_2110000.next 5000 _ _ (by decide +kernel) rfl
theorem rot_2120000 : RotN 2120000 45820208317171390312203548871 64634435443946584468792998057 := rot_2115000.next 5000 _ _ (by decide +kernel) rfl
theorem rot_2125000 : RotN 2125000 45914166795752614464789126973 64567724312062360772462609904 := rot_2120000.next 5000 _ _ (by decide +kernel) rfl
theorem rot_2130000 : RotN 2130000 46008028147579981418013843725 64500876593719010536495250415 := rot_2125000.next 5000 _ _ (by decide +kernel) rfl
theorem rot_2135000 : RotN 2135000 46101792174099339983752566174 64433892430326088557616314883 := rot_2130000.next 5000 _ _ (by decide +kernel) rfl
theorem rot_2140000 : RotN 2140000 46195458676962420772346799893 64366771963581785268775223281 := rot_2135000.next 5000 _ _ (by decide +kernel) rfl
theorem rot_2145000 : RotN 2145000 46289027458027255778211560873 64299515335472626991023551481 := rot_2140000.next 5000 _ _ (by decide +kernel) rfl
theorem rot_2150000 : RotN 2150000 46382498319358597529032634444 64232122688273175575447893223 := rot_2145000.next 5000 _ _ (by decide +kernel) rfl
theorem rot_2155000 : RotN 2155000 46475871063228337797667554224 64164594164545727435792829789 := rot_2150000.next 5000 _ _ (by decide +kernel) rfl
theorem rot_2160000 : RotN 2160000 46569145492115925875864558053 64096929907140011972410673207 := rot_2155000.next 5000 _ _ (by decide +kernel) rfl
theorem rot_2165000 : RotN 2165000 46662321408708786408914705842 64029130059192889388175936475 := rot_2160000.next 5000 _ _ (by decide +kernel) rfl
theorem rot_2170000 : RotN 2170000 46755398615902736790353272099 63961194764128047897003770686 := rot_2165000.next 5000 _ _ (by decide +kernel) rfl
theorem rot_2175000 : RotN 2175000 46848376916802404115827457666 63893124165655700325612893189 := rot_2170000.next 5000 _ _ (by decide +kernel) rfl
theorem rot_2180000 : RotN 2180000 46941256114721641695248396431 63824918407772280109174815535 := rot_2175000.next 5000 _ _ (by decide +kernel) rfl
theorem rot_2185000 : RotN 2185000 47034036013183945122346368652 63756577634760136681492461225 := rot_2180000.next 5000 _ _ (by decide +kernel) rfl
theorem rot_2190000 : RotN 2190000 47126716415922867900749067189 63688101991187230260352544188 := rot_2185000.next 5000 _ _ (by decide +kernel) rfl
theorem rot_2195000 : RotN 2195000 47219297126882436625703702730 63619491621906826028697358950 := rot_2190000.next 5000 _ _ (by decide +kernel) rfl
theorem rot_2200000 : RotN 2200000 47311777950217565720564672654 63550746672057187712262910946 := rot_2195000.next 5000 _ _ (by decide +kernel) rfl
theorem rot_2205000 : RotN 2205000 47404158690294471727169461102 63481867287061270554331592287 := rot_2200000.next 5000 _ _ (by decide +kernel) rfl
theorem rot_2210000 : RotN 2210000 47496439151691087149226380636 63412853612626413688248883697 := rot_2205000.next 5000 _ _ (by decide +kernel) rfl
theorem rot_2215000 : RotN 2215000 47588619139197473847838712046 63343705794744031908354837614 := rot_2210000.next 5000 _ _ (by decide +kernel) rfl
theorem rot_2220000 : RotN 2220000 47680698457816235988290746380 63274423979689306839982369201 := rot_2215000.next 5000 _ _ (by decide +kernel) rfl
theorem rot_2225000 : RotN 2225000 47772676912762932537222181692 63205008314020877509175654147 := rot_2220000.next 5000 _ _ (by decide +kernel) rfl
theorem rot_2230000 : RotN 2230000 47864554309466489309318279088 63135458944580530312783201409 := rot_2225000.next 5000 _ _ (by decide +kernel) rfl
theorem rot_2235000 : RotN 2235000 47956330453569610562644134832 63065776018492888389581437789 := rot_2230000.next 5000 _ _ (by decide +kernel) rfl
theorem rot_2240000 : RotN 2240000 48048005150929190141752380803 62995959683165100393085907937 := rot_2235000.next 5000 _ _ (by decide +kernel) rfl
theorem rot_2245000 : RotN 2245000 48139578207616722167694581528 62926010086286528666708459420 := rot_2240000.next 5000 _ _ (by decide +kernel) rfl
theorem rot_2250000 : RotN 2250000 48231049429918711274067554676 62855927375828436821920046899 := rot_2245000.next 5000 _ _ (by decide +kernel) rfl
theorem rot_2255000 : RotN 2255000 48322418624337082388226803009 62785711700043676720080051320 := rot_2250000.next 5000 _ _ (by decide +kernel) rfl
theorem rot_2260000 : RotN 2260000 48413685597589590056800206540 62715363207466374858594272903 := rot_2255000.next 5000 _ _ (by decide +kernel) rfl
theorem rot_2265000 : RotN 2265000 48504850156610227314636088847 62644882046911618162065016101 := rot_2260000.next 5000 _ _ (by decide +kernel) rfl
theorem rot_2270000 : RotN 2270000 48595912108549634096320736410 62574268367475139179097942992 := rot_2265000.next 5000 _ _ (by decide +kernel) rfl
theorem rot_2275000 : RotN 2275000 48686871260775505189401418451 62503522318533000685431629754 := rot_2270000.next 5000 _ _ (by decide +kernel) rfl
theorem rot_2280000 : RotN 2280000 48777727420872997728451923122 62432644049741279694057015781 := rot_2275000.next 5000 _ _ (by decide +kernel) rfl
theorem rot_2285000 : RotN 2285000 48868480396645138229118598466 62361633711035750872995190409 := rot_2280000.next 5000 _ _ (by decide +kernel) rfl
theorem rot_2290000 : RotN 2290000 48959129996113229161285857957 62290491452631569371403214437 := rot_2285000.next 5000 _ _ (by decide +kernel) rfl
theorem rot_2295000 : RotN 2295000 49049676027517255060501087537 62219217425022953054678925621 := rot_2290000.next 5000 _ _ (by decide +kernel) rfl
theorem rot_2300000 : RotN 2300000 49140118299316288176799865900 62147811778982864149236927576 := rot_2295000.next 5000 _ _ (by decide +kernel) rfl
theorem rot_2305000 : RotN 2305000 49230456620188893660073389626 62076274665562690297629210183 := rot_2300000.next 5000 _ _ (by decide +kernel) rfl
theorem rot_2310000 : RotN 2310000 49320690799033534281120974194 62004606236091925024685097117 := rot_2305000.next 5000 _ _ (by decide +kernel) rfl
theorem rot_2315000 : RotN 2315000 49410820644968974687531485246 61932806642177847615346461431 := rot_2310000.next 5000 _ _ (by decide +kernel) rfl
theorem rot_2320000 : RotN 2320000 49500845967334685193538537296 61860876035705202404875395621 := rot_2315000.next 5000 _ _ (by decide +kernel) rfl
theorem rot_2325000 : RotN 2325000 49590766575691245102995284031 61788814568835877482112765072 := rot_2320000.next 5000 _ _ (by decide +kernel) rfl
theorem rot_2330000 : RotN 2330000 49680582279820745564615610820 61716622394008582806467315196 := rot_2325000.next 5000 _ _ (by decide +kernel) rfl
theorem rot_2335000 : RotN 2335000 49770292889727191958629530606 61644299663938527739316243195 := rot_2330000.next 5000 _ _ (by decide +kernel) rfl
theorem rot_2340000 : RotN 2340000 49859898215636905814001574835 61571846531617097990499384306 := rot_2335000.next 5000 _ _ (by decide +kernel) rfl
theorem rot_2345000 : RotN 2345000 49949398067998926255361964687 61499263150311531980590398763 := rot_2340000.next 5000 _ _ (by decide +kernel) rfl
theorem rot_2350000 : RotN 2350000 50038792257485410978801341803 61426549673564596619629583000 := rot_2345000.next 5000 _ _ (by decide +kernel) rfl
theorem rot_2355000 : RotN 2355000 50128080594992036755680835789 61353706255194262503004161222 := rot_2350000.next 5000 _ _ (by decide +kernel) rfl
theorem rot_2360000 : RotN 2360000 50217262891638399463610242859 61280733049293378525163148757 := rot_2355000.next 5000 _ _ (by decide +kernel) rfl
theorem rot_2365000 : RotN 2365000 50306338958768413643748090616 61207630210229345911855107401 := rot_2360000.next 5000 _ _ (by decide +kernel) rfl
theorem rot_2370000 : RotN 2370000 50395308607950711583578366762 61134397892643791671578345540 := rot_2365000.next 5000 _ _ (by decide +kernel) rfl
theorem rot_2375000 : RotN 2375000 50484171650979041924319691904 61061036251452241466934342777 := rot_2370000.next 5000 _ _ (by decide +kernel) rfl
theorem rot_2380000 : RotN 2380000 50572927899872667792123723428 60987545441843791906576406501 := rot_2375000.next 5000 _ _ (by decide +kernel) rfl
theorem rot_2385000 : RotN 2385000 50661577166876764452220584481 60913925619280782258446793653 := rot_2380000.next 5000 _ _ (by decide +kernel) rfl
theorem rot_2390000 : RotN 2390000 50750119264462816485170120547 60840176939498465584996754853 := rot_2385000.next 5000 _ _ (by decide +kernel) rfl
theorem rot_2395000 : RotN 2395000 50838554005329014484378798439 60766299558504679301085181083 := rot_2390000.next 5000 _ _ (by decide +kernel) rfl
theorem rot_2400000 : RotN 2400000 50926881202400651274043073485 60692293632579515155252753689 := rot_2395000.next 5000 _ _ (by decide +kernel) rfl
theorem rot_2405000 : RotN 2405000 51015100668830517646681067035 60618159318274988635069719687 := rot_2400000.next 5000 _ _ (by decide +kernel) rfl
theorem rot_2410000 : RotN 2410000 51103212217999297619415411026 60543896772414707797256630788 := rot_2405000.next 5000 _ _ (by decide +kernel) rfl
theorem rot_2415000 : RotN 2415000 51191215663515963208171135574 60469506152093541523278603026 := rot_2410000.next 5000 _ _ (by decide +kernel) rfl
theorem rot_2420000 : RotN 2420000 51279110819218168718953494658 60394987614677287201114868290 := rot_2415000.next 5000 _ _ (by decide +kernel) rfl
theorem rot_2425000 : RotN 2425000 51366897499172644555371646818 60320341317802337833906603394 := rot_2420000.next 5000 _ _ (by decide +kernel) rfl
theorem rot_2430000 : RotN 2430000 51454575517675590541575131217 60245567419375348576187234193 := rot_2425000.next 5000 _ _ (by decide +kernel) rfl
theorem rot_2435000 : RotN 2435000 51542144689253068759771104084 60170666077572902698400623852 := rot_2430000.next 5000 _ _ (by decide +kernel) rfl
theorem rot_2440000 : RotN 2440000 51629604828661395901491327877 60095637450841176980413762871 := rot_2435000.next 5000 _ _ (by decide +kernel) rfl
theorem rot_2445000 : RotN 2445000 51716955750887535131778933979 60020481697895606534731787682 := rot_2440000.next 5000 _ _ (by decide +kernel) rfl
theorem rot_2450000 : RotN 2450000 51804197271149487465466010022 59945198977720549060124359353 := rot_2445000.next 5000 _ _ (by decide +kernel) rfl
theorem rot_2455000 : RotN 2455000 51891329204896682654714094859 59869789449568948526373640308 := rot_2450000.next 5000 _ _ (by decide +kernel) rfl
theorem rot_2460000 : RotN 2460000 51978351367810369586990698691 59794253272961998290855309713 := rot_2455000.next 5000 _ _ (by decide +kernel) rfl
theorem rot_2465000 : RotN 2465000 52065263575804006192656001037 59718590607688803647665259700 := rot_2460000.next 5000 _ _ (by decide +kernel) rfl
theorem rot_2470000 : RotN 2470000 52152065645023648861334916229 59642801613806043810005816526 := rot_2465000.next 5000 _ _ (by decide +kernel) rfl
theorem rot_2475000 : RotN 2475000 52238757391848341366250756180 59566886451637633326546527317 := rot_2470000.next 5000 _ _ (by decide +kernel) rfl
theorem rot_2480000 : RotN 2480000 52325338632890503295697760644 59490845281774382932475752385 := rot_2475000.next 5000 _ _ (by decide +kernel) rfl
theorem rot_2485000 : RotN 2485000 52411809184996317990830806813 59414678265073659835960498301 := rot_2480000.next 5000 _ _ (by decide +kernel) rfl
theorem rot_2490000 : RotN 2490000 52498168865246119988951656284 59338385562659047440733120944 := rot_2485000.next 5000 _ _ (by decide +kernel) rfl
theorem rot_2495000 : RotN 2495000 52584417490954781971472141760 59261967335920004505524720747 := rot_2490000.next 5000 _ _ (by decide +kernel) rfl
theorem rot_2500000 : RotN 2500000 52670554879672101215735744894 59185423746511523741066244095 := rot_2495000.next 5000 _ _ (by decide +kernel) rfl
theorem rot_2505000 : RotN 2505000 52756580849183185549880065473 59108754956353789845379493800 := rot_2500000.next 5000 _ _ (by decide +kernel) rfl
theorem rot_2510000 : RotN 2510000 52842495217508838809923733524 59031961127631836978081440486 := rot_2505000.next 5000 _ _ (by decide +kernel) rfl
theorem rot_2515000 : RotN 2515000 52928297802905945798262369387 58955042422795205674426413294 := rot_2510000.next 5000 _ _ (by decide +kernel) rfl
theorem rot_2520000 : RotN 2520000 53013988423867856742759251004 58877999004557599199811932963 := rot_2515000.next 5000 _ _ (by decide +kernel) rfl
theorem rot_2525000 : RotN 2525000 53099566899124771255617403945 58800831035896539345475134855 := rot_2520000.next 5000 _ _ (by decide +kernel) rfl
theorem rot_2530000 : RotN 2530000 53185033047644121791220889246 58723538680053021666107910905 := rot_2525000.next 5000 _ _ (by decide +kernel) rfl
theorem rot_2535000 : RotN 2535000 53270386688630956602134121428 58646122100531170160120080358 := rot_2530000.next 5000 _ _ (by decide +kernel) rfl
theorem rot_2540000 : RotN 2540000 53355627641528322192449113656 58568581461097891393281078019 := rot_2535000.next 5000 _ _ (by decide +kernel) rfl
theorem rot_2545000 : RotN 2545000 53440755726017645267671607932 58490916925782528066471826458 := rot_2540000.next 5000 _ _ (by decide +kernel) rfl
theorem rot_2550000 : RotN 2550000 53525770762019114180338114482 58413128658876512028279634405 := rot_2545000.next 5000 _ _ (by decide +kernel) rfl
theorem rot_2555000 : RotN 2555000 53610672569692059870556950859 58335216824933016733170137449 := rot_2550000.next 5000 _ _ (by decide +kernel) rfl
theorem rot_2560000 : RotN 2560000 53695460969435336300667439775 58257181588766609145971471169 := rot_2555000.next 5000 _ _ (by decide +kernel) rfl
theorem rot_2565000 : RotN 2565000 53780135781887700383212494709 58179023115452901093407037060 := rot_2560000.next 5000 _ _ (by decide +kernel) rfl
theorem rot_2570000 : RotN 2570000 53864696827928191401420894552 58100741570328200063414391371 := rot_2565000.next 5000 _ _ (by decide +kernel) rfl
theorem rot_2575000 : RotN 2575000 53949143928676509921396621403 58022337118989159452988955975 := rot_2570000.next 5000 _ _ (by decide +kernel) rfl
theorem rot_2580000 : RotN 2580000 54033476905493396195213711632 57943809927292428265292415906 := rot_2575000.next 5000 _ _ (by decide +kernel) rfl
theorem rot_2585000 : RotN 2585000 54117695579981008054116146487 57865160161354300256766834024 := rot_2580000.next 5000 _ _ (by decide +kernel) rfl
theorem rot_2590000 : RotN 2590000 54201799773983298291023388512 57786387987550362534996676461 := rot_2585000.next 5000 _ _ (by decide +kernel) rfl
theorem rot_2595000 : RotN 2595000 54285789309586391531543248186 57707493572515143608062104146 := rot_2590000.next 5000 _ _ (by decide +kernel) rfl
theorem rot_2600000 : RotN 2600000 54369664009118960592694849305 57628477083141760886128046247 := rot_2595000.next 5000 _ _ (by decide +kernel) rfl
theorem rot_2605000 : RotN 2605000 54453423695152602328545544219 57549338686581567636014730325 := rot_2600000.next 5000 _ _ (by decide +kernel) rfl
theorem rot_2610000 : RotN 2610000 54537068190502212961966715905 57470078550243799389496500950 := rot_2605000.next 5000 _ _ (by decide +kernel) rfl
theorem rot_2615000 : RotN 2615000 54620597318226362901714490151 57390696841795219806076913387 := rot_2610000.next 5000 _ _ (by decide +kernel) rfl
theorem rot_2620000 : RotN 2620000 54704010901627671044042470892 57311193729159765990989245098 := rot_2615000.next 5000 _ _ (by decide +kernel) rfl
theorem rot_2625000 : RotN 2625000 54787308764253178558054701662 57231569380518193269172716825 := rot_2620000.next 5000 _ _ (by decide +kernel) rfl
theorem rot_2630000 : RotN 2630000 54870490729894722154008147854 57151823964307719415975869813 := rot_2625000.next 5000 _ _ (by decide +kernel) rfl
theorem rot_2635000 : RotN 2635000 54953556622589306833775088943 57071957649221668345339691541 := rot_2630000.next 5000 _ _ (by decide +kernel) rfl
theorem rot_2640000 : RotN 2640000 55036506266619478122676905063 56991970604209113256214231991 := rot_2635000.next 5000 _ _ (by decide +kernel) rfl
theorem rot_2645000 : RotN 2645000 55119339486513693781901838795 56911862998474519237963597809 := rot_2640000.next 5000 _ _ (by decide +kernel) rfl
theorem rot_2650000 : RotN 2650000 55202056107046695000720413009 56831635001477385335515356511 := rot_2645000.next 5000 _ _ (by decide +kernel) rfl
theorem rot_2655000 : RotN 2655000 55284655953239877067713284749 56751286782931886075011525127 := rot_2650000.next 5000 _ _ (by decide +kernel) rfl
theorem rot_2660000 : RotN 2660000 55367138850361659520227418281 56670818512806512450719459651 := rot_2655000.next 5000 _ _ (by decide +kernel) rfl
theorem rot_2665000 : RotN 2665000 55449504623927855771277563255 56590230361323712373962101160 := rot_2660000.next 5000 _ _ (by decide +kernel) rfl
theorem rot_2670000 : RotN 2670000 55531753099702042213111130687 56509522498959530584828171770 := rot_2665000.next 5000 _ _ (by decide +kernel) rfl
theorem rot_2675000 : RotN 2675000 55613884103695926796655664399 56428695096443248027424051196 := rot_2670000.next 5000 _ _ (by decide +kernel) rfl
theorem rot_2680000 : RotN 2680000 55695897462169717086069217130 56347748324757020689430198459 := rot_2675000.next 5000 _ _ (by decide +kernel) rfl
theorem rot_2685000 : RotN 2685000 55777793001632487787615047754 56266682355135517906726117581 := rot_2680000.next 5000 _ _ (by decide +kernel) rfl
theorem rot_2690000 : RotN 2690000 55859570548842547752083170793 56185497359065560133848996280 := rot_2685000.next 5000 _ _ (by decide +kernel) rfl
theorem rot_2695000 : RotN 2695000 55941229930807806449982401216 56104193508285756181052277960 := rot_2690000.next 5000 _ _ (by decide +kernel) rfl
theorem rot_2700000 : RotN 2700000 56022770974786139918727653830 56022770974786139918731555141 := rot_2695000.next 5000 _ _ (by decide +kernel) rfl
theorem rot_2700001 : RotN 2700001 56022787271147263054027597928 56022754678420276363447266336 := rot_2700000.next 1 _ _ (by decide +kernel) rfl
theorem rot_all {r : Nat} (h1 : 1 ≤ r) (h2 : r ≤ 2700000) : (r ≠ 1800000 → gapN (rotN r).1) ∧ gapN (rotN r).2 := rot_2700001.2 r h1 (by omega)
end Go.Proofs.YtnnmfdeeicpdlaaGreat
