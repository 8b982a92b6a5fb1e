/- Contracts and plain laws, several texts in one: Div; Shelf; Div2; Nm2 -/
import Derived.Shelf.Small.Bits
import Derived.Shelf.Small.Wraps
import Derived.Shelf.Strconv.Itoa0
import Derived.Shelf.Sort.Plain
import Derived.Shelf.Bits.Mul64
import Derived.Shelf.Slices.Turned
import Derived.Ground.Names2Prog
import Derived.Shelf.Slices.Clone
import Derived.Shelf.Slices.CompactS
import Derived.Shelf.Slices.SearchI
import Derived.Shelf.Slices.Cells
import Derived.Shelf.Slices.In.SortNone
import Derived.Shelf.Slices.Empties
import Derived.Test.YtjfpgpipbooilaaGreatProg
import Derived.WalkKit
import Derived.WalkSpells
import Derived.WalkLawsBesides
import Derived.Lib.Hide
import Derived.BigQuiet
import Derived.Lib.ItoaNum
import Derived.Test.YtjfpgpipbooilaaGreatVAA
import Derived.Test.YtjfpgpipbooilaaGreatVAB
import Derived.Test.YtjfpgpipbooilaaGreatVAD
/- The quotient of two words by one, as math/bits reckons it: the plain law (Knuth's digits, of any base B). No program in sight. -/
namespace Go.Proofs.YtjfpgpipbooilaaGreat

structure DI (B U y1 y0 c q r : Nat) : Prop where
  eq : q * y1 + r = U
  up : U * B + c < (q + 1) * (y1 * B + y0)
  qb : q ≤ B + 1
theorem di_init {B U y1 y0 c : Nat} (h1 : B ≤ 2 * y1) (h0 : y0 < B) (hU : U < y1 * B + y0) (hc : c < B) : DI B U y1 y0 c (U / y1) (U % y1) ∧ U % y1 < y1 := by
  have hlt : U % y1 < y1 := Nat.mod_lt _ (by omega)
  have he : U / y1 * y1 + U % y1 = U := by rw [Nat.mul_comm]; exact Nat.div_add_mod U y1
  refine ⟨⟨he, ?_, ?_⟩, hlt⟩
  · have h2 : U + 1 ≤ (U / y1 + 1) * y1 := by rw [Nat.succ_mul]; omega
    have h3 : (U + 1) * B ≤ (U / y1 + 1) * y1 * B := Nat.mul_le_mul_right _ h2
    have h4 : (U / y1 + 1) * (y1 * B + y0) = (U / y1 + 1) * y1 * B + (U / y1 + 1) * y0 := by rw [Nat.mul_add, Nat.mul_assoc]
    rw [h4]
    rw [Nat.succ_mul] at h3
    generalize (U / y1 + 1) * y1 * B = A at *
    generalize (U / y1 + 1) * y0 = C at *
    generalize U * B = D at *
    omega
  · have e : y1 * (B + 2) = y1 * B + y1 * 2 := Nat.mul_add _ _ _
    have h2 : U < y1 * (B + 2) := by
      rw [e]
      generalize y1 * B = A at *
      omega
    have := Nat.div_lt_of_lt_mul h2
    omega
theorem di_step {B U y1 y0 c q r : Nat} (h : DI B U y1 y0 c q r) (hU : U < y1 * B + y0) (hc : c < B) (hcond : B ≤ q ∨ r * B + c < q * y0) : 0 < q ∧ DI B U y1 y0 c (q - 1) (r + y1) ∧ q - 1 ≤ B := by
  have hq : 0 < q := by
    rcases hcond with h1 | h1
    · omega
    · rcases Nat.eq_zero_or_pos q with e | e
      · rw [e, Nat.zero_mul] at h1; omega
      · exact e
  obtain ⟨p, rfl⟩ : ∃ p, q = p + 1 := ⟨q - 1, by omega⟩
  have he := h.eq
  rw [Nat.succ_mul] at he
  refine ⟨hq, ⟨by rw [Nat.add_sub_cancel]; omega, ?_, by have := h.qb; omega⟩, by have := h.qb; omega⟩
  rw [Nat.add_sub_cancel]
  rcases hcond with h1 | h1
  · have h2 : (U + 1) * B ≤ (y1 * B + y0) * B := Nat.mul_le_mul_right _ hU
    have h3 : B * (y1 * B + y0) ≤ (p + 1) * (y1 * B + y0) := Nat.mul_le_mul_right _ h1
    rw [Nat.succ_mul] at h2
    rw [Nat.mul_comm B] at h3
    generalize (p + 1) * (y1 * B + y0) = A at *
    generalize (y1 * B + y0) * B = C at *
    generalize U * B = D at *
    omega
  · have h4 : (p + 1) * (y1 * B + y0) = (p + 1) * y1 * B + (p + 1) * y0 := by rw [Nat.mul_add, Nat.mul_assoc]
    have h5 : U * B = (p + 1) * y1 * B + r * B := by rw [← Nat.add_mul, h.eq]
    rw [h4, h5]
    generalize (p + 1) * y1 * B = A at *
    generalize (p + 1) * y0 = C at *
    generalize r * B = D at *
    omega
theorem di_done {B U y1 y0 c q r : Nat} (h : DI B U y1 y0 c q r) (hle : q * y0 ≤ r * B + c) : (U * B + c) / (y1 * B + y0) = q ∧ q * (y1 * B + y0) ≤ U * B + c := by
  have h4 : q * (y1 * B + y0) = q * y1 * B + q * y0 := by rw [Nat.mul_add, Nat.mul_assoc]
  have h5 : U * B = q * y1 * B + r * B := by rw [← Nat.add_mul, h.eq]
  have hup := h.up
  have hle2 : q * (y1 * B + y0) ≤ U * B + c := by
    rw [h4, h5]
    generalize q * y1 * B = A at *
    generalize q * y0 = C at *
    generalize r * B = D at *
    omega
  exact ⟨Nat.div_eq_of_lt_le hle2 hup, hle2⟩
theorem di_break {B y0 c q r : Nat} (h0 : y0 < B) (hq : q ≤ B) (hr : B ≤ r) : q * y0 ≤ r * B + c :=
  Nat.le_trans (Nat.mul_le_mul hq (Nat.le_of_lt h0)) (Nat.le_trans (Nat.mul_le_mul_right B hr) (Nat.le_add_right _ _))
theorem two_digits {B U c1 c0 y : Nat} (hy : 0 < y) : ((U * B + c1) * B + c0) / y = (U * B + c1) / y * B + ((U * B + c1) % y * B + c0) / y ∧
    ((U * B + c1) * B + c0) % y = ((U * B + c1) % y * B + c0) % y := by
  have h := Nat.div_add_mod (U * B + c1) y
  generalize U * B + c1 = T at *
  have e : T * B + c0 = y * (T / y * B) + (T % y * B + c0) := by
    have h2 : T * B = y * (T / y) * B + T % y * B := by rw [← Nat.add_mul, h]
    rw [h2, ← Nat.mul_assoc, Nat.add_assoc]
  constructor
  · rw [e, Nat.mul_add_div hy]
  · rw [e, Nat.mul_add_mod]
theorem shifted (M y s : Nat) : (M * 2 ^ s) / (y * 2 ^ s) = M / y ∧ (M * 2 ^ s) % (y * 2 ^ s) / 2 ^ s = M % y := by
  have hp : 0 < 2 ^ s := Nat.pow_pos (by decide)
  constructor
  · exact Nat.mul_div_mul_right M y hp
  · rw [Nat.mul_mod_mul_right, Nat.mul_div_cancel _ hp]
end Go.Proofs.YtjfpgpipbooilaaGreat
/- DERIVED: THE SHELF's CONTRACTS AT THIS DUMP, IN PLAIN WORDS (tools/lay-plain.mjs out of 'TryzShelf.lean', which tools/lay-shelf.mjs wrote): THE SAME DECLARATIONS UNDER THE SAME NAMES: 'import', 'namespace', 'open', 'def', 'theorem' AND NOTHING ELSE: no command of the shelf's: FOR A HAND-IN. Each laying: the table of numbers ('.._ren') and one theorem, a field a fact of the dump's own or the kernel's comparison; each contract: ONE APPLICATION. -/
namespace Go.Proofs
open Go.Shelf
def Tryz.lays134_ren : Go.Shelf.Ren := ⟨fun | 134 => 197 | 129 => 165 | n => n, fun | 53 => 190 | 3 => 3 | 4 => 4 | 46 => 159 | 5 => 5 | 9 => 9 | n => n, fun | n => n⟩
theorem Tryz.lays134 : Go.Proofs.Lays.n134 Tryz.prog Tryz.lays134_ren := {
  mixed := by kernel_rfl
  f129 := Tryz.func165.trans (congrArg some (by kernel_rfl))
  f134 := Tryz.func197.trans (congrArg some (by kernel_rfl))
  t3 := Tryz.underlying3
  a3 := Tryz.isAgg3
  z3 := Tryz.sizeOf3
  v3 := Tryz.zeroValue3
  t4 := Tryz.underlying4
  a4 := Tryz.isAgg4
  z4 := Tryz.sizeOf4
  v4 := Tryz.zeroValue4
  t5 := Tryz.underlying5
  a5 := Tryz.isAgg5
  z5 := Tryz.sizeOf5
  v5 := Tryz.zeroValue5
  t9 := Tryz.underlying9
  a9 := Tryz.isAgg9
  z9 := Tryz.sizeOf9
  v9 := Tryz.zeroValue9
  t46 := Tryz.underlying159
  a46 := Tryz.isAgg159
  z46 := Tryz.sizeOf159
  v46 := Tryz.zeroValue159
  t53 := Tryz.underlying190
  a53 := Tryz.isAgg190
  z53 := Tryz.sizeOf190
  v53 := Tryz.zeroValue190 }
theorem Tryz.bits_LeadingZeros64 (x : Int) (w : World) (h0 : 0 ≤ x) (h1 : x ≤ 18446744073709551615) :
    Calls Tryz.prog 197 #[.int .u64 x] w fun e w' => e = .returned (.int .i64 (64 - (Lib.bitLen x.toNat : Int))) ∧ w' = w := Any.bits_LeadingZeros64 Tryz.lays134 x w h0 h1
def Tryz.lays190_ren : Go.Shelf.Ren := ⟨fun | 190 => 80 | 125 => 124 | 258 => 123 | 128 => 164 | 129 => 165 | 302 => 155 | 303 => 156 | 304 => 157 | 305 => 158 | 306 => 159 | 307 => 160 | 308 => 161 | 309 => 162 | 310 => 163 | 333 => 191 | 329 => 192 | 330 => 193 | 334 => 194 | 335 => 195 | 336 => 196 | 344 => 216 | n => n, fun | 31 => 38 | 9 => 9 | 3 => 3 | 46 => 159 | 0 => 0 | 51 => 188 | 53 => 190 | 4 => 4 | 183 => 181 | 182 => 180 | 131 => 144 | 5 => 5 | 218 => 211 | 222 => 215 | 228 => 226 | 229 => 160 | n => n, fun | n => n⟩
theorem Tryz.lays190 : Go.Proofs.Lays.n190 Tryz.prog Tryz.lays190_ren := {
  mixed := by kernel_rfl
  f125 := Tryz.func124.trans (congrArg some (by kernel_rfl))
  f128 := Tryz.func164.trans (congrArg some (by kernel_rfl))
  f129 := Tryz.func165.trans (congrArg some (by kernel_rfl))
  f190 := Tryz.func80.trans (congrArg some (by kernel_rfl))
  f258 := Tryz.func123.trans (congrArg some (by kernel_rfl))
  f302 := Tryz.func155.trans (congrArg some (by kernel_rfl))
  f303 := Tryz.func156.trans (congrArg some (by kernel_rfl))
  f304 := Tryz.func157.trans (congrArg some (by kernel_rfl))
  f305 := Tryz.func158.trans (congrArg some (by kernel_rfl))
  f306 := Tryz.func159.trans (congrArg some (by kernel_rfl))
  f307 := Tryz.func160.trans (congrArg some (by kernel_rfl))
  f308 := Tryz.func161.trans (congrArg some (by kernel_rfl))
  f309 := Tryz.func162.trans (congrArg some (by kernel_rfl))
  f310 := Tryz.func163.trans (congrArg some (by kernel_rfl))
  f329 := Tryz.func192.trans (congrArg some (by kernel_rfl))
  f330 := Tryz.func193.trans (congrArg some (by kernel_rfl))
  f333 := Tryz.func191.trans (congrArg some (by kernel_rfl))
  f334 := Tryz.func194.trans (congrArg some (by kernel_rfl))
  f335 := Tryz.func195.trans (congrArg some (by kernel_rfl))
  f336 := Tryz.func196.trans (congrArg some (by kernel_rfl))
  f344 := Tryz.func216.trans (congrArg some (by kernel_rfl))
  t0 := Tryz.underlying0
  a0 := Tryz.isAgg0
  z0 := Tryz.sizeOf0
  v0 := Tryz.zeroValue0
  t3 := Tryz.underlying3
  a3 := Tryz.isAgg3
  z3 := Tryz.sizeOf3
  v3 := Tryz.zeroValue3
  t4 := Tryz.underlying4
  a4 := Tryz.isAgg4
  z4 := Tryz.sizeOf4
  v4 := Tryz.zeroValue4
  t5 := Tryz.underlying5
  a5 := Tryz.isAgg5
  z5 := Tryz.sizeOf5
  v5 := Tryz.zeroValue5
  t9 := Tryz.underlying9
  a9 := Tryz.isAgg9
  z9 := Tryz.sizeOf9
  v9 := Tryz.zeroValue9
  t31 := Tryz.underlying38
  a31 := Tryz.isAgg38
  z31 := Tryz.sizeOf38
  v31 := Tryz.zeroValue38
  t46 := Tryz.underlying159
  a46 := Tryz.isAgg159
  z46 := Tryz.sizeOf159
  v46 := Tryz.zeroValue159
  t51 := Tryz.underlying188
  a51 := Tryz.isAgg188
  z51 := Tryz.sizeOf188
  v51 := Tryz.zeroValue188
  t53 := Tryz.underlying190
  a53 := Tryz.isAgg190
  z53 := Tryz.sizeOf190
  v53 := Tryz.zeroValue190
  t131 := Tryz.underlying144
  a131 := Tryz.isAgg144
  z131 := Tryz.sizeOf144
  v131 := Tryz.zeroValue144
  t182 := Tryz.underlying180
  a182 := Tryz.isAgg180
  z182 := Tryz.sizeOf180
  v182 := Tryz.zeroValue180
  t183 := Tryz.underlying181
  a183 := Tryz.isAgg181
  z183 := Tryz.sizeOf181
  v183 := Tryz.zeroValue181
  t218 := Tryz.underlying211
  a218 := Tryz.isAgg211
  z218 := Tryz.sizeOf211
  v218 := Tryz.zeroValue211
  t222 := Tryz.underlying215
  a222 := Tryz.isAgg215
  z222 := Tryz.sizeOf215
  v222 := Tryz.zeroValue215
  t228 := Tryz.underlying226
  a228 := Tryz.isAgg226
  z228 := Tryz.sizeOf226
  v228 := Tryz.zeroValue226
  t229 := Tryz.underlying160
  a229 := Tryz.isAgg160
  z229 := Tryz.sizeOf160
  v229 := Tryz.zeroValue160 }
open Go.Sort Go.RowKit in
theorem Tryz.slices_Sort_string (blk off cap : Nat) (ss : List (List UInt8)) (w : World) (hH : Holds encStr w blk off ss.toArray) (hblk : blk < w.heap.size) (hsz : ss.length < 4611686018427387904) :
    Calls Tryz.prog 80 #[.slice (some ⟨blk, off, none⟩) ss.length cap] w fun e w' =>
      e = .returned (.tuple #[]) ∧ ∃ n os, w' = grow (putRow encStr (Sort.ahead w n) blk off (ss.mergeSort fun x y => decide (x ≤ y)).toArray) os := Any.slices_Sort_string Tryz.lays190 blk off cap ss w hH hblk hsz
def Tryz.lays264_ren : Go.Shelf.Ren := ⟨fun | 264 => 166 | n => n, fun | 53 => 190 | 46 => 159 | n => n, fun | n => n⟩
theorem Tryz.lays264 : Go.Proofs.Lays.n264 Tryz.prog Tryz.lays264_ren := {
  mixed := by kernel_rfl
  f264 := Tryz.func166.trans (congrArg some (by kernel_rfl))
  t46 := Tryz.underlying159
  a46 := Tryz.isAgg159
  z46 := Tryz.sizeOf159
  v46 := Tryz.zeroValue159
  t53 := Tryz.underlying190
  a53 := Tryz.isAgg190
  z53 := Tryz.sizeOf190
  v53 := Tryz.zeroValue190 }
open Go.RowKit Go.Lib in
theorem Tryz.bits_Mul64 (x y : Nat) (hx : x < 18446744073709551616) (hy : y < 18446744073709551616) (w : World) :
    Calls Tryz.prog 166 #[.int .u64 x, .int .u64 y] w fun e w' => e = .returned (.tuple #[.int .u64 ((x * y / 18446744073709551616 : Nat) : Int), .int .u64 ((x * y % 18446744073709551616 : Nat) : Int)]) ∧ w' = w := Any.bits_Mul64 Tryz.lays264 x y hx hy w
def Tryz.lays110_ren : Go.Shelf.Ren := ⟨fun | 110 => 14 | 109 => 34 | n => n, fun | 31 => 38 | 9 => 9 | 4 => 4 | 3 => 3 | 0 => 0 | n => n, fun | n => n⟩
theorem Tryz.lays110 : Go.Proofs.Lays.n110 Tryz.prog Tryz.lays110_ren := {
  mixed := by kernel_rfl
  f109 := Tryz.func34.trans (congrArg some (by kernel_rfl))
  f110 := Tryz.func14.trans (congrArg some (by kernel_rfl))
  t0 := Tryz.underlying0
  a0 := Tryz.isAgg0
  z0 := Tryz.sizeOf0
  v0 := Tryz.zeroValue0
  t3 := Tryz.underlying3
  a3 := Tryz.isAgg3
  z3 := Tryz.sizeOf3
  v3 := Tryz.zeroValue3
  t4 := Tryz.underlying4
  a4 := Tryz.isAgg4
  z4 := Tryz.sizeOf4
  v4 := Tryz.zeroValue4
  t9 := Tryz.underlying9
  a9 := Tryz.isAgg9
  z9 := Tryz.sizeOf9
  v9 := Tryz.zeroValue9
  t31 := Tryz.underlying38
  a31 := Tryz.isAgg38
  z31 := Tryz.sizeOf38
  v31 := Tryz.zeroValue38 }
open Go.Lib in
theorem Tryz.slices_Contains_string (b off n c : Nat) (zs : List ByteArray) (x : ByteArray) (w : World) (hz : n ≤ zs.length) (hbig : n ≤ 9223372036854775807) (hc : ∀ j, j < zs.length → w.cell? ⟨b, off + j, none⟩ = some (.string (zs.getD j ByteArray.empty))) :
    Calls Tryz.prog 14 #[.slice (some ⟨b, off, none⟩) n c, .string x] w fun e w' => e = .returned (.bool (Lib.containsS (zs.take n) x)) ∧ w' = w := Any.slices_Contains_string Tryz.lays110 b off n c zs x w hz hbig hc
open Go.Lib in
theorem Tryz.slices_Contains_string_empty (a : Option Addr) (c : Nat) (x : ByteArray) (w : World) :
    Calls Tryz.prog 14 #[.slice a 0 c, .string x] w fun e w' => e = .returned (.bool false) ∧ w' = w := Any.slices_Contains_string_empty Tryz.lays110 a c x w
def Tryz.laysNm215_ren : Go.Shelf.Ren := ⟨fun | 15 => 108 | n => n, fun | 22 => 89 | 3 => 3 | 4 => 4 | n => n, fun | n => n⟩
theorem Tryz.laysNm215 : Go.Proofs.Lays2.n15 Tryz.prog Tryz.laysNm215_ren := {
  mixed := by kernel_rfl
  f15 := Tryz.func108.trans (congrArg some (by kernel_rfl))
  t3 := Tryz.underlying3
  a3 := Tryz.isAgg3
  z3 := Tryz.sizeOf3
  v3 := Tryz.zeroValue3
  t4 := Tryz.underlying4
  a4 := Tryz.isAgg4
  z4 := Tryz.sizeOf4
  v4 := Tryz.zeroValue4
  t22 := Tryz.underlying89
  a22 := Tryz.isAgg89
  z22 := Tryz.sizeOf89
  v22 := Tryz.zeroValue89
  i3 := by kernel_rfl }
open Go.RowKit Go.Lib in
theorem Tryz.slices_Clone_int (b off n c : Nat) (zs : List Int) (w : World) (hz : n ≤ zs.length) (hbig : n * 8 ≤ 140737488355328) (hc : ∀ j, j < zs.length → w.cell? ⟨b, off + j, none⟩ = some (.int .i64 (zs.getD j 0))) :
    Calls Tryz.prog 108 #[.slice (some ⟨b, off, none⟩) n c] w fun e w' => ∃ v', e = .returned v' ∧ w'.ownsRow w.heap.size 3 1 v' n ((zs.take n).map (Value.int .i64)) ∧ v' ≠ .slice none 0 0 ∧ Below w.heap.size w w' := Any.slices_Clone_int Tryz.laysNm215 b off n c zs w hz hbig hc
open Go.RowKit Go.Lib in
theorem Tryz.slices_Clone_int_nil (n c : Nat) (w : World) :
    Calls Tryz.prog 108 #[.slice none n c] w fun e w' => e = .returned (.slice none 0 0) ∧ w' = w := Any.slices_Clone_int_nil Tryz.laysNm215 n c w
open Go.RowKit Go.Lib in
theorem Tryz.slices_Clone_int_zero (a : Addr) (c : Nat) (w : World) :
    Calls Tryz.prog 108 #[.slice (some a) 0 c] w fun e w' => ∃ v', e = .returned v' ∧ w'.ownsRow w.heap.size 3 1 v' 0 [] ∧ v' ≠ .slice none 0 0 ∧ Below w.heap.size w w' := Any.slices_Clone_int_zero Tryz.laysNm215 a c w
def Tryz.lays194_ren : Go.Shelf.Ren := ⟨fun | 194 => 81 | n => n, fun | 31 => 38 | 9 => 9 | 3 => 3 | 4 => 4 | 0 => 0 | n => n, fun | n => n⟩
theorem Tryz.lays194 : Go.Proofs.Lays.n194 Tryz.prog Tryz.lays194_ren := {
  mixed := by kernel_rfl
  f194 := Tryz.func81.trans (congrArg some (by kernel_rfl))
  t0 := Tryz.underlying0
  a0 := Tryz.isAgg0
  z0 := Tryz.sizeOf0
  v0 := Tryz.zeroValue0
  t3 := Tryz.underlying3
  a3 := Tryz.isAgg3
  z3 := Tryz.sizeOf3
  v3 := Tryz.zeroValue3
  t4 := Tryz.underlying4
  a4 := Tryz.isAgg4
  z4 := Tryz.sizeOf4
  v4 := Tryz.zeroValue4
  t9 := Tryz.underlying9
  a9 := Tryz.isAgg9
  z9 := Tryz.sizeOf9
  v9 := Tryz.zeroValue9
  t31 := Tryz.underlying38
  a31 := Tryz.isAgg38
  z31 := Tryz.sizeOf38
  v31 := Tryz.zeroValue38 }
open Go.RowKit Go.Lib Go.Sort in
theorem Tryz.slices_Compact_string (blk off cap : Nat) (zs : List (List UInt8)) (w : World) (hH : Holds encStr w blk off zs.toArray) (hsz : zs.length ≤ 9223372036854775807) (hcap : zs.length ≤ cap) :
    Calls Tryz.prog 81 #[.slice (some ⟨blk, off, none⟩) zs.length cap] w fun e w' => e = .returned (.slice (some ⟨blk, off, none⟩) (Lib.compact zs).length cap) ∧ ∃ q, w' = putRow encStr (Sort.ahead w q) blk off (Lib.compact zs ++ List.replicate (zs.length - (Lib.compact zs).length) []).toArray := Any.slices_Compact_string Tryz.lays194 blk off cap zs w hH hsz hcap
open Go.RowKit Go.Lib Go.Sort in
theorem Tryz.slices_Compact_string_empty (a : Option Addr) (cap : Nat) (w : World) :
    Calls Tryz.prog 81 #[.slice a 0 cap] w fun e w' => e = .returned (.slice a 0 cap) ∧ w' = w := Any.slices_Compact_string_empty Tryz.lays194 a cap w
def Tryz.laysNm225_ren : Go.Shelf.Ren := ⟨fun | 25 => 168 | 31 => 198 | 32 => 199 | 37 => 217 | n => n, fun | 22 => 89 | 3 => 3 | 4 => 4 | 40 => 159 | 0 => 0 | n => n, fun | n => n⟩
theorem Tryz.laysNm225 : Go.Proofs.Lays2.n25 Tryz.prog Tryz.laysNm225_ren := {
  mixed := by kernel_rfl
  f25 := Tryz.func168.trans (congrArg some (by kernel_rfl))
  f31 := Tryz.func198.trans (congrArg some (by kernel_rfl))
  f32 := Tryz.func199.trans (congrArg some (by kernel_rfl))
  f37 := Tryz.func217.trans (congrArg some (by kernel_rfl))
  t0 := Tryz.underlying0
  a0 := Tryz.isAgg0
  z0 := Tryz.sizeOf0
  v0 := Tryz.zeroValue0
  t3 := Tryz.underlying3
  a3 := Tryz.isAgg3
  z3 := Tryz.sizeOf3
  v3 := Tryz.zeroValue3
  t4 := Tryz.underlying4
  a4 := Tryz.isAgg4
  z4 := Tryz.sizeOf4
  v4 := Tryz.zeroValue4
  t22 := Tryz.underlying89
  a22 := Tryz.isAgg89
  z22 := Tryz.sizeOf89
  v22 := Tryz.zeroValue89
  t40 := Tryz.underlying159
  a40 := Tryz.isAgg159
  z40 := Tryz.sizeOf159
  v40 := Tryz.zeroValue159 }
open Go.RowKit Go.Lib in
theorem Tryz.slices_BinarySearch_int (b off n c : Nat) (zs : List Int) (x : Int) (w : World) (hz : n ≤ zs.length) (hbig : n < 4611686018427387904) (hc : ∀ j, j < zs.length → w.cell? ⟨b, off + j, none⟩ = some (.int .i64 (zs.getD j 0))) (hs : (zs.take n).Pairwise (· ≤ ·)) :
    Calls Tryz.prog 168 #[.slice (some ⟨b, off, none⟩) n c, .int .i64 x] w fun e w' => e = .returned (.tuple #[.int .i64 ((zs.take n).countP (· < x) : Nat), .bool ((zs.take n).contains x)]) ∧ ∃ q, w' = w.drewN q := Any.slices_BinarySearch_int Tryz.laysNm225 b off n c zs x w hz hbig hc hs
open Go.RowKit Go.Sort in
theorem Tryz.slices_Sort_string_none (p : Option Addr) (cap : Nat) (w : World) :
    Calls Tryz.prog 80 #[.slice p 0 cap] w fun e w' => e = .returned (.tuple #[]) ∧ w' = w := Any.slices_Sort_string_none Tryz.lays190 p cap w
open Go.RowKit Go.Lib in
theorem Tryz.slices_BinarySearch_int_empty (a : Option Addr) (c : Nat) (x : Int) (w : World) :
    Calls Tryz.prog 168 #[.slice a 0 c, .int .i64 x] w fun e w' => e = .returned (.tuple #[.int .i64 0, .bool false]) ∧ w' = w := Any.slices_BinarySearch_int_empty Tryz.laysNm225 a c x w
end Go.Proofs
/- The walk of math/bits.Div64. -/
namespace Go.Proofs.YtjfpgpipbooilaaGreat
open Go.RowKit

theorem div_nums {hi lo y s : Nat} (hhi : hi < y) (hlo : lo < 18446744073709551616) (hs : s ≤ 63) :
    lo / 2 ^ (64 - s) < 2 ^ s ∧ hi * 2 ^ s + lo / 2 ^ (64 - s) < y * 2 ^ s ∧ (hi * 18446744073709551616 + lo) * 2 ^ s = (hi * 2 ^ s + lo / 2 ^ (64 - s)) * 18446744073709551616 + lo * 2 ^ s % 18446744073709551616 := by
  have hpr : 2 ^ s * 2 ^ (64 - s) = 18446744073709551616 := by rw [← Nat.pow_add]; rw [show s + (64 - s) = 64 by omega]
  have hp : 0 < 2 ^ s := Nat.pow_pos (by decide)
  have hr : 0 < 2 ^ (64 - s) := Nat.pow_pos (by decide)
  generalize 2 ^ s = p at *
  generalize 2 ^ (64 - s) = r at *
  have h1 : lo / r < p := Nat.div_lt_of_lt_mul (by rw [Nat.mul_comm, hpr]; exact hlo)
  refine ⟨h1, ?_, ?_⟩
  · have : (hi + 1) * p ≤ y * p := Nat.mul_le_mul_right _ hhi
    rw [Nat.succ_mul] at this
    generalize y * p = A at *
    generalize hi * p = C at *
    omega
  · have h2 : lo * p = lo / r * 18446744073709551616 + lo % r * p := by
      rw [← hpr, Nat.mul_comm p r, ← Nat.mul_assoc, ← Nat.add_mul, Nat.mul_comm (lo / r) r, Nat.div_add_mod]
    have h3 : lo % r * p < 18446744073709551616 := by
      rw [← hpr, Nat.mul_comm p r]; exact Nat.mul_lt_mul_of_pos_right (Nat.mod_lt _ hr) hp
    rw [Nat.add_mul, Nat.add_mul, h2, Nat.mul_right_comm hi 18446744073709551616 p]
    generalize lo % r * p = A at *
    generalize hi * p = C at *
    generalize lo / r = D at *
    omega
theorem lz_of (y : Nat) (h0 : y ≠ 0) (h1 : y < 18446744073709551616) : ∃ s : Nat, s ≤ 63 ∧ (64 - (Lib.bitLen y : Int)) = (s : Int) ∧ y * 2 ^ s < 18446744073709551616 ∧ 9223372036854775808 ≤ y * 2 ^ s := by
  obtain ⟨b1, b2, b3⟩ := Lib.bitLenAux_bounds 64 y (by simpa using h1) h0
  have e : Lib.bitLenAux 64 y = Lib.bitLen y := rfl
  rw [e] at b1 b2 b3
  have h64 : Lib.bitLen y ≤ 64 := Lib.bitLen_le y 64 (by omega) (by simpa using h1)
  generalize Lib.bitLen y = k at *
  refine ⟨64 - k, by omega, by omega, ?_, ?_⟩
  · have : y * 2 ^ (64 - k) < 2 ^ k * 2 ^ (64 - k) := Nat.mul_lt_mul_of_pos_right b3 (Nat.pow_pos (by decide))
    rw [← Nat.pow_add, show k + (64 - k) = 64 by omega] at this
    exact this
  · have : 2 ^ (k - 1) * 2 ^ (64 - k) ≤ y * 2 ^ (64 - k) := Nat.mul_le_mul_right _ b2
    rw [← Nat.pow_add, show k - 1 + (64 - k) = 63 by omega] at this
    exact this
theorem pow_cast (y s : Nat) : (y : Int) * 2 ^ s = ((y * 2 ^ s : Nat) : Int) := by rw [Int.natCast_mul, Int.natCast_pow]; rfl
theorem or_add {a b s : Nat} (h : b < 2 ^ s) : (a * 2 ^ s ||| b) = a * 2 ^ s + b := by rw [Nat.mul_comm a]; exact (Nat.two_pow_add_eq_or_of_lt h a).symm
theorem tdiv_cast (a b : Nat) : ((a : Int).tdiv (b : Int)) = ((a / b : Nat) : Int) := by rw [Int.tdiv_eq_ediv_of_nonneg (by omega)]; exact (Int.natCast_ediv a b).symm
theorem wrap_tdiv (a b : Nat) (ha : a < 18446744073709551616) : IntKind.u64.wrap ((a : Int).tdiv (b : Int)) = ((a / b : Nat) : Int) := by
  rw [tdiv_cast]; exact Mul64.wrapN _ (Nat.lt_of_le_of_lt (Nat.div_le_self _ _) ha)
theorem wrap_rest (a b : Nat) (ha : a < 18446744073709551616) : IntKind.u64.wrap ((a : Int) - IntKind.u64.wrap (((a / b : Nat) : Int) * (b : Int))) = ((a % b : Nat) : Int) := by
  have h := Nat.div_add_mod a b
  rw [Nat.mul_comm] at h
  rw [Mul64.mulN, Mul64.wrapN _ (by omega), IntKind.wrap_u64]
  generalize a / b * b = A at *
  generalize a % b = C at *
  omega
theorem wrap_digit (U c Y q : Nat) (hY : 0 < Y) (hYb : Y < 18446744073709551616) (hq : q = (U * 4294967296 + c) / Y) :
    IntKind.u64.wrap (IntKind.u64.wrap (IntKind.u64.wrap ((U : Int) * 4294967296) + (c : Int)) - IntKind.u64.wrap ((q : Int) * (Y : Int))) = (((U * 4294967296 + c) % Y : Nat) : Int) := by
  have h := Nat.div_add_mod (U * 4294967296 + c) Y
  have hl := Nat.mod_lt (U * 4294967296 + c) hY
  rw [← hq, Nat.mul_comm] at h
  rw [Mul64.mulN, IntKind.wrap_u64, IntKind.wrap_u64, IntKind.wrap_u64, IntKind.wrap_u64]
  generalize q * Y = A at *
  generalize (U * 4294967296 + c) % Y = C at *
  omega
theorem wrap_two (q1 q0 T : Nat) (h : q1 * 4294967296 + q0 = T) (hT : T < 18446744073709551616) :
    IntKind.u64.wrap (IntKind.u64.wrap ((q1 : Int) * 4294967296) + (q0 : Int)) = (T : Int) := by
  rw [IntKind.wrap_u64, IntKind.wrap_u64]; omega
theorem join_gen (B U L : Nat) : (U * B + L / B) * B + L % B = U * (B * B) + L := by
  have h := Nat.div_add_mod L B
  rw [Nat.add_mul, Nat.mul_assoc, Nat.mul_comm (L / B), Nat.add_assoc, h]
theorem join_words (U L : Nat) : (U * 4294967296 + L / 4294967296) * 4294967296 + L % 4294967296 = U * 18446744073709551616 + L := by
  have h := join_gen 4294967296 U L
  have e : (4294967296 * 4294967296 : Nat) = 18446744073709551616 := by decide
  rw [e] at h
  exact h
set_option maxHeartbeats 4000000 in
theorem div64' (hi lo y qf rf : Nat) (hqf : qf = (hi * 18446744073709551616 + lo) / y) (hrf : rf = (hi * 18446744073709551616 + lo) % y) (hhi : hi < y) (hlo : lo < 18446744073709551616) (hy : y < 18446744073709551616) (w : World) :
    Calls Tryz.prog 167 #[.int .u64 (hi : Int), .int .u64 (lo : Int), .int .u64 (y : Int)] w fun e w' =>
      e = .returned (.tuple #[.int .u64 (qf : Int), .int .u64 (rf : Int)]) ∧ ∃ d, w' = bw w d := by
  refine lay_start ?_
  have hyz : (y : Int) ≠ 0 := by omega
  have hyn : ¬ y = 0 := by omega
  have hlt : ¬ (y : Int) ≤ (hi : Int) := by omega
  have hyb : ((y : Int) == 0) = false := by simp; omega
  by_cases h0 : hi = 0
  · subst h0
    have hq : IntKind.u64.wrap ((lo : Int).tdiv (y : Int)) = ((lo / y : Nat) : Int) := wrap_tdiv lo y hlo
    have hr : IntKind.u64.wrap ((lo : Int) % (y : Int)) = ((lo % y : Nat) : Int) := by
      rw [← Int.natCast_emod]; exact Mul64.wrapN _ (Nat.lt_of_le_of_lt (Nat.mod_le _ _) hlo)
    go_enter Tryz.func167, Tryz.ntmps167
    go_wp2_with fail
    refine region_bw (by kernel_rfl) (by kernel_rfl) ?_
    repeat (go_big_quiet_step ((first | fail)))
    refine wpQuiet_nil ?_
    rintro w' ⟨d, rfl⟩
    rw [lay_bw]
    go_wp2_with fail
    have hq' : IntKind.u64.wrap ((lo : Int) / (y : Int)) = ((lo / y : Nat) : Int) := by
      rw [← Int.natCast_ediv]; exact Mul64.wrapN _ (Nat.lt_of_le_of_lt (Nat.div_le_self _ _) hlo)
    go_ret2
    refine ⟨?_, lay_ex w _⟩
    rw [hq', ← Int.natCast_emod, hqf, hrf, Nat.zero_mul, Nat.zero_add]
    rfl
  · have h0b : ((hi : Int) == 0) = false := by simp; omega
    obtain ⟨s, hs, es, hup, hdn⟩ := lz_of y (by omega) hy
    obtain ⟨n1, n2, n3⟩ := div_nums hhi hlo hs
    have c := Tryz.bits_LeadingZeros64 (y : Int) (lay w []) (by omega) (by omega)
    rw [show ((y : Int).toNat) = y by omega, es] at c
    obtain ⟨hsh1, hsh2⟩ := shifted (hi * 18446744073709551616 + lo) y s
    have hTb : (hi * 18446744073709551616 + lo) / y < 18446744073709551616 := Nat.div_lt_of_lt_mul (by
      have : (hi + 1) * 18446744073709551616 ≤ y * 18446744073709551616 := Nat.mul_le_mul_right _ hhi
      omega)
    have eY : IntKind.u64.wrap ((y : Int) * 2 ^ s) = ((y * 2 ^ s : Nat) : Int) := by rw [pow_cast]; exact Mul64.wrapN _ hup
    have eL : IntKind.u64.wrap ((lo : Int) * 2 ^ s) = ((lo * 2 ^ s % 18446744073709551616 : Nat) : Int) := by rw [pow_cast]; exact Mul64.wrapM _
    obtain ⟨H0, eH0⟩ : ∃ H0, H0 = hi * 2 ^ s := ⟨_, rfl⟩
    obtain ⟨D0, eD0⟩ : ∃ D0, D0 = lo / 2 ^ (64 - s) := ⟨_, rfl⟩
    rw [← eH0, ← eD0] at n2 n3
    rw [← eD0] at n1
    have hhs : H0 < 18446744073709551616 := Nat.lt_of_le_of_lt (Nat.le_add_right _ _) (Nat.lt_trans n2 hup)
    have eH : IntKind.u64.wrap ((hi : Int) * 2 ^ s) = (H0 : Int) := by rw [pow_cast, ← eH0]; exact Mul64.wrapN _ hhs
    have eD : (lo : Int) / 2 ^ (64 - s) = (D0 : Int) := by rw [eD0, Int.natCast_ediv, Int.natCast_pow]; rfl
    have eO : bits .or .u64 (H0 : Int) (D0 : Int) = ((H0 + D0 : Nat) : Int) := by
      rw [bits_or_u64_nat _ _ hhs (Nat.lt_of_le_of_lt (Nat.le_add_left _ _) (Nat.lt_trans n2 hup)), eH0, or_add n1]
    have ep : ((M : Nat) → ((M : Nat) : Int) / 2 ^ s = ((M / 2 ^ s : Nat) : Int)) := fun M => by rw [Int.natCast_ediv, Int.natCast_pow]; rfl
    rw [n3] at hsh1 hsh2
    generalize hGL : lo * 2 ^ s % 18446744073709551616 = L at *
    generalize hGU : H0 + D0 = U at *
    generalize hGY : y * 2 ^ s = Y at *
    have hL : L < 18446744073709551616 := by rw [← hGL]; exact Nat.mod_lt _ (by decide)
    have m1 : bits .and .u64 (Y : Int) 4294967295 = ((Y % 4294967296 : Nat) : Int) := Mul64.maskN Y hup
    have m2 : bits .and .u64 (L : Int) 4294967295 = ((L % 4294967296 : Nat) : Int) := Mul64.maskN L hL
    have d1 : (Y : Int) / 4294967296 = ((Y / 4294967296 : Nat) : Int) := Mul64.divN _
    have d2 : (L : Int) / 4294967296 = ((L / 4294967296 : Nat) : Int) := Mul64.divN _
    obtain ⟨y1, hy1⟩ : ∃ y1, y1 = Y / 4294967296 := ⟨_, rfl⟩
    obtain ⟨y0, hy0e⟩ : ∃ y0, y0 = Y % 4294967296 := ⟨_, rfl⟩
    obtain ⟨c1, hc1e⟩ : ∃ c1, c1 = L / 4294967296 := ⟨_, rfl⟩
    obtain ⟨c0, hc0e⟩ : ∃ c0, c0 = L % 4294967296 := ⟨_, rfl⟩
    rw [← hy1] at d1
    rw [← hy0e] at m1
    rw [← hc1e] at d2
    rw [← hc0e] at m2
    have hyy : y1 * 4294967296 + y0 = Y := by omega
    have hy0 : y0 < 4294967296 := by omega
    have hy1b : y1 < 4294967296 := by omega
    have hc1 : c1 < 4294967296 := by omega
    have hc0 : c0 < 4294967296 := by omega
    have hy1u : 4294967296 ≤ 2 * y1 := by omega
    have hU : U < y1 * 4294967296 + y0 := by omega
    have hUb : U < 18446744073709551616 := by omega
    obtain ⟨Q1, eQ1⟩ : ∃ Q1, Q1 = U / y1 := ⟨_, rfl⟩
    obtain ⟨T1, eT1⟩ : ∃ T1, T1 = U % y1 := ⟨_, rfl⟩
    obtain ⟨D1, hr1⟩ := di_init hy1u hy0 hU hc1
    have g1 : IntKind.u64.wrap ((U : Int) / (y1 : Int)) = (Q1 : Int) := by rw [eQ1, ← wrap_tdiv U y1 hUb, tdiv_cast, Int.natCast_ediv]
    have g2 := wrap_rest U y1 hUb
    rw [← eQ1, ← eT1] at g2 D1
    rw [← eT1] at hr1
    obtain ⟨R1, hR1e⟩ : ∃ R1, R1 = (U * 4294967296 + c1) % Y := ⟨_, rfl⟩
    have hR1 : R1 < y1 * 4294967296 + y0 := by rw [hyy, hR1e]; exact Nat.mod_lt _ (by omega)
    have hR1b : R1 < 18446744073709551616 := by omega
    obtain ⟨Q2, eQ2⟩ : ∃ Q2, Q2 = R1 / y1 := ⟨_, rfl⟩
    obtain ⟨T2, eT2⟩ : ∃ T2, T2 = R1 % y1 := ⟨_, rfl⟩
    obtain ⟨D2, hr2⟩ := di_init hy1u hy0 hR1 hc0
    have g3 : IntKind.u64.wrap ((R1 : Int) / (y1 : Int)) = (Q2 : Int) := by rw [eQ2, ← wrap_tdiv R1 y1 hR1b, tdiv_cast, Int.natCast_ediv]
    have g4 := wrap_rest R1 y1 hR1b
    rw [← eQ2, ← eT2] at g4 D2
    rw [← eT2] at hr2
    have hT : ∀ q1 : Nat, q1 = (U * 4294967296 + c1) / Y → IntKind.u64.wrap (IntKind.u64.wrap (IntKind.u64.wrap ((U : Int) * 4294967296) + (c1 : Int)) - IntKind.u64.wrap ((q1 : Int) * (Y : Int))) = (R1 : Int) := fun q1 h => by
      rw [hR1e]; exact wrap_digit U c1 Y q1 (by omega) (by omega) h
    obtain ⟨t1, t2⟩ := two_digits (B := 4294967296) (U := U) (c1 := c1) (c0 := c0) (y := Y) (by omega)
    have hML : (U * 4294967296 + c1) * 4294967296 + c0 = U * 18446744073709551616 + L := by rw [hc1e, hc0e]; exact join_words U L
    rw [hML, hsh1] at t1
    rw [hML] at t2
    rw [← hR1e] at t1 t2
    rw [← hqf] at t1
    obtain ⟨R0, hR0⟩ : ∃ R0, R0 = (R1 * 4294967296 + c0) % Y := ⟨_, rfl⟩
    rw [← hqf] at hTb
    rw [t2] at hsh2
    have hE1 : ∀ q1 : Nat, q1 = (U * 4294967296 + c1) / Y → ∀ q0 : Nat, q0 = (R1 * 4294967296 + c0) / Y → IntKind.u64.wrap (IntKind.u64.wrap ((q1 : Int) * 4294967296) + (q0 : Int)) = (qf : Int) ∧ IntKind.u64.wrap ((q1 : Int) * 4294967296 + (q0 : Int)) = (qf : Int) := fun q1 h1 q0 h0 => by
      have e : q1 * 4294967296 + q0 = qf := by rw [t1, h1, h0]
      refine ⟨wrap_two q1 q0 _ e hTb, ?_⟩
      rw [IntKind.wrap_u64]; omega
    have hE2 : ∀ q0 : Nat, q0 = (R1 * 4294967296 + c0) / Y → IntKind.u64.wrap (IntKind.u64.wrap (IntKind.u64.wrap ((R1 : Int) * 4294967296) + (c0 : Int)) - IntKind.u64.wrap ((q0 : Int) * (Y : Int))) = (R0 : Int) := fun q0 h => by
      rw [hR0]; exact wrap_digit R1 c0 Y q0 (by omega) (by omega) h
    have hE3 : (R0 : Int) / 2 ^ s = (rf : Int) := by rw [ep, hR0, hsh2, hrf]
    have hy1z : (y1 : Int) ≠ 0 := by omega
    have hy1n : ¬ y1 = 0 := by omega
    clear t1 t2 hML hsh1 hsh2 hGL hGU hGY n1 n2 n3 ep es hR1e hTb eQ1 eT1 eQ2 eT2 hR0 eH0 eD0 hqf hrf hL hhs hUb hR1b hy1u hdn
    have HX := Lib.hid (And.intro hyy (And.intro hy0 (And.intro hy1b (And.intro hc1 (And.intro hc0 (And.intro hU (And.intro hr1 (And.intro hR1 (And.intro hr2 (And.intro D1 (And.intro D2 hup)))))))))))
    have HE := Lib.hid (And.intro hT (And.intro hE1 hE2))
    clear hyy hy0 hy1b hc1 hc0 hU hr1 hR1 hr2 D1 D2 hT hE1 hE2 hup hy1 hy0e hc1e hc0e hhi hlo hy h0
    go_enter Tryz.func167, Tryz.ntmps167
    go_wp2_with (first | (go_at_call 197; refine c.mono ?_; rintro e w' ⟨rfl, hw⟩; rw [hw]))
    go_loopw [15, 16] (fun v15 v16 wr => ∃ q r : Nat, v15 = .int .u64 (q : Int) ∧ v16 = .int .u64 (r : Int) ∧ wr = lay w [] ∧ DI 4294967296 U y1 y0 c1 q r ∧ r < 4294967296) (fun v15 _ _ => (intOf v15).toNat)
    case atStart =>
      obtain ⟨hyy, hy0, hy1b, hc1, hc0, hU, hr1, hR1, hr2, D1, D2, hup⟩ := HX.out
      exact ⟨Q1, T1, rfl, rfl, rfl, D1, by omega⟩
    case round =>
      obtain ⟨q, r, rfl, rfl, hw, D, hr⟩ := hrel
      rw [hw]
      clear hw
      obtain ⟨hyy, hy0, hy1b, hc1, hc0, hU, hr1, hR1, hr2, D1, D2, hup⟩ := HX.out
      have hqy := Nat.mul_le_mul D.qb (Nat.le_sub_one_of_lt hy0)
      have hqb := D.qb
      obtain ⟨P, eP⟩ : ∃ P, P = q * y0 := ⟨_, rfl⟩
      obtain ⟨N0, eN0⟩ : ∃ N0, N0 = 4294967296 * r := ⟨_, rfl⟩
      obtain ⟨N1, eN1⟩ : ∃ N1, N1 = N0 + c1 := ⟨_, rfl⟩
      obtain ⟨r2, er2⟩ : ∃ r2, r2 = r + y1 := ⟨_, rfl⟩
      obtain ⟨p, ep⟩ : ∃ p, p = q - 1 := ⟨_, rfl⟩
      have f1 : IntKind.u64.wrap ((q : Int) * (y0 : Int)) = (P : Int) := by rw [Mul64.mulN, ← eP]; exact Mul64.wrapN _ (by omega)
      have f2 : IntKind.u64.wrap (4294967296 * (r : Int)) = (N0 : Int) := by rw [IntKind.wrap_u64]; omega
      have f3 : IntKind.u64.wrap ((N0 : Int) + (c1 : Int)) = (N1 : Int) := by rw [IntKind.wrap_u64]; omega
      have f5 : IntKind.u64.wrap ((r : Int) + (y1 : Int)) = (r2 : Int) := by rw [IntKind.wrap_u64]; omega
      by_cases hA : 4294967296 ≤ q
      · have hA' : (4294967296 : Int) ≤ (q : Int) := by omega
        obtain ⟨p0, D', pB⟩ := di_step D hU hc1 (Or.inl hA)
        rw [← ep, ← er2] at D'
        rw [← ep] at pB
        have f4 : IntKind.u64.wrap ((q : Int) - 1) = (p : Int) := by rw [IntKind.wrap_u64]; omega
        by_cases hE : 4294967296 ≤ r2
        · have hE' : (4294967296 : Int) ≤ (r2 : Int) := by omega
          obtain ⟨hq, -⟩ := di_done D' (di_break hy0 pB hE)
          clear D' pB hE p0
          rw [hyy] at hq
          have k1 := HE.out.1 _ hq.symm
          have K2 := Lib.hid (HE.out.2.1 _ hq.symm)
          clear hyy hy0 hy1b hc1 hc0 hU hr1 hR1 hr2 D1 D2 hup hqy hqb eP eN0 eN1 er2 ep hA D hr
          clear hq
          go_wp2_with fail
          go_loopw [18, 16] (fun v18 v16 wr => ∃ q r : Nat, v18 = .int .u64 (q : Int) ∧ v16 = .int .u64 (r : Int) ∧ wr = lay w [] ∧ DI 4294967296 R1 y1 y0 c0 q r ∧ r < 4294967296) (fun v18 _ _ => (intOf v18).toNat)
          case atStart =>
            obtain ⟨hyy, hy0, hy1b, hc1, hc0, hU, hr1, hR1, hr2, D1, D2, hup⟩ := HX.out
            exact ⟨Q2, T2, rfl, rfl, rfl, D2, by omega⟩
          case round =>
            obtain ⟨q, r, rfl, rfl, hw, D, hr⟩ := hrel
            rw [hw]
            clear hw
            obtain ⟨hyy, hy0, hy1b, hc1, hc0, hU, hr1, hR1, hr2, D1, D2, hup⟩ := HX.out
            have hqy := Nat.mul_le_mul D.qb (Nat.le_sub_one_of_lt hy0)
            have hqb := D.qb
            obtain ⟨P, eP⟩ : ∃ P, P = q * y0 := ⟨_, rfl⟩
            obtain ⟨N0, eN0⟩ : ∃ N0, N0 = 4294967296 * r := ⟨_, rfl⟩
            obtain ⟨N1, eN1⟩ : ∃ N1, N1 = N0 + c0 := ⟨_, rfl⟩
            obtain ⟨r2, er2⟩ : ∃ r2, r2 = r + y1 := ⟨_, rfl⟩
            obtain ⟨p, ep⟩ : ∃ p, p = q - 1 := ⟨_, rfl⟩
            have f1 : IntKind.u64.wrap ((q : Int) * (y0 : Int)) = (P : Int) := by rw [Mul64.mulN, ← eP]; exact Mul64.wrapN _ (by omega)
            have f2 : IntKind.u64.wrap (4294967296 * (r : Int)) = (N0 : Int) := by rw [IntKind.wrap_u64]; omega
            have f3 : IntKind.u64.wrap ((N0 : Int) + (c0 : Int)) = (N1 : Int) := by rw [IntKind.wrap_u64]; omega
            have f5 : IntKind.u64.wrap ((r : Int) + (y1 : Int)) = (r2 : Int) := by rw [IntKind.wrap_u64]; omega
            by_cases hA : 4294967296 ≤ q
            · have hA' : (4294967296 : Int) ≤ (q : Int) := by omega
              obtain ⟨p0, D', pB⟩ := di_step D hR1 hc0 (Or.inl hA)
              rw [← ep, ← er2] at D'
              rw [← ep] at pB
              have f4 : IntKind.u64.wrap ((q : Int) - 1) = (p : Int) := by rw [IntKind.wrap_u64]; omega
              by_cases hE : 4294967296 ≤ r2
              · have hE' : (4294967296 : Int) ≤ (r2 : Int) := by omega
                obtain ⟨hq, -⟩ := di_done D' (di_break hy0 pB hE)
                clear D' pB hE p0
                rw [hyy] at hq
                have k3 := HE.out.2.2 _ hq.symm
                obtain ⟨k4, k5⟩ := K2.out _ hq.symm
                clear hyy hy0 hy1b hc1 hc0 hU hr1 hR1 hr2 D1 D2 hup hqy hqb eP eN0 eN1 er2 ep hA D hr
                clear hq
                go_wp2_with fail
                go_ret2
                exact ⟨rfl, lay_ex w []⟩
              · have hE' : ¬ (4294967296 : Int) ≤ (r2 : Int) := by omega
                have hm : p < q := by omega
                have HK := Lib.hid (And.intro D' (And.intro hm (Nat.lt_of_not_le hE)))
                clear hyy hy0 hy1b hc1 hc0 hU hr1 hR1 hr2 D1 D2 hup hqy hqb eP eN0 eN1 er2 ep hA D hr
                clear D' pB hE hm p0
                go_wp2_with fail
                go_roundw
                case rel => exact ⟨p, r2, rfl, rfl, by first | trivial | rfl, HK.out.1, HK.out.2.2⟩
                case measure =>
                  have := HK.out.2.1
                  simp only [intOf]
                  omega
            · have hA' : ¬ (4294967296 : Int) ≤ (q : Int) := by omega
              by_cases hB : N1 < P
              · have hB' : (N1 : Int) < (P : Int) := Int.ofNat_lt.2 hB
                obtain ⟨p0, D', pB⟩ := di_step D hR1 hc0 (Or.inr (by rw [← eP]; omega))
                clear hB
                rw [← ep, ← er2] at D'
                rw [← ep] at pB
                have f4 : IntKind.u64.wrap ((q : Int) - 1) = (p : Int) := by rw [IntKind.wrap_u64]; omega
                by_cases hE : 4294967296 ≤ r2
                · have hE' : (4294967296 : Int) ≤ (r2 : Int) := by omega
                  obtain ⟨hq, -⟩ := di_done D' (di_break hy0 pB hE)
                  clear D' pB hE p0
                  rw [hyy] at hq
                  have k3 := HE.out.2.2 _ hq.symm
                  obtain ⟨k4, k5⟩ := K2.out _ hq.symm
                  clear hyy hy0 hy1b hc1 hc0 hU hr1 hR1 hr2 D1 D2 hup hqy hqb eP eN0 eN1 er2 ep hA D hr
                  clear hq
                  go_wp2_with fail
                  go_ret2
                  exact ⟨rfl, lay_ex w []⟩
                · have hE' : ¬ (4294967296 : Int) ≤ (r2 : Int) := by omega
                  have hm : p < q := by omega
                  have HK := Lib.hid (And.intro D' (And.intro hm (Nat.lt_of_not_le hE)))
                  clear hyy hy0 hy1b hc1 hc0 hU hr1 hR1 hr2 D1 D2 hup hqy hqb eP eN0 eN1 er2 ep hA D hr
                  clear D' pB hE hm p0
                  go_wp2_with fail
                  go_roundw
                  case rel => exact ⟨p, r2, rfl, rfl, by first | trivial | rfl, HK.out.1, HK.out.2.2⟩
                  case measure =>
                    have := HK.out.2.1
                    simp only [intOf]
                    omega
              · have hB' : ¬ (N1 : Int) < (P : Int) := fun h => hB (Int.ofNat_lt.1 h)
                obtain ⟨hq, -⟩ := di_done D (by rw [← eP]; omega)
                clear hB
                rw [hyy] at hq
                have k3 := HE.out.2.2 _ hq.symm
                obtain ⟨k4, k5⟩ := K2.out _ hq.symm
                clear hyy hy0 hy1b hc1 hc0 hU hr1 hR1 hr2 D1 D2 hup hqy hqb eP eN0 eN1 er2 ep hA D hr
                clear hq
                go_wp2_with fail
                go_ret2
                exact ⟨rfl, lay_ex w []⟩
        · have hE' : ¬ (4294967296 : Int) ≤ (r2 : Int) := by omega
          have hm : p < q := by omega
          have HK := Lib.hid (And.intro D' (And.intro hm (Nat.lt_of_not_le hE)))
          clear hyy hy0 hy1b hc1 hc0 hU hr1 hR1 hr2 D1 D2 hup hqy hqb eP eN0 eN1 er2 ep hA D hr
          clear D' pB hE hm p0
          go_wp2_with fail
          go_roundw
          case rel => exact ⟨p, r2, rfl, rfl, by first | trivial | rfl, HK.out.1, HK.out.2.2⟩
          case measure =>
            have := HK.out.2.1
            simp only [intOf]
            omega
      · have hA' : ¬ (4294967296 : Int) ≤ (q : Int) := by omega
        by_cases hB : N1 < P
        · have hB' : (N1 : Int) < (P : Int) := Int.ofNat_lt.2 hB
          obtain ⟨p0, D', pB⟩ := di_step D hU hc1 (Or.inr (by rw [← eP]; omega))
          clear hB
          rw [← ep, ← er2] at D'
          rw [← ep] at pB
          have f4 : IntKind.u64.wrap ((q : Int) - 1) = (p : Int) := by rw [IntKind.wrap_u64]; omega
          by_cases hE : 4294967296 ≤ r2
          · have hE' : (4294967296 : Int) ≤ (r2 : Int) := by omega
            obtain ⟨hq, -⟩ := di_done D' (di_break hy0 pB hE)
            clear D' pB hE p0
            rw [hyy] at hq
            have k1 := HE.out.1 _ hq.symm
            have K2 := Lib.hid (HE.out.2.1 _ hq.symm)
            clear hyy hy0 hy1b hc1 hc0 hU hr1 hR1 hr2 D1 D2 hup hqy hqb eP eN0 eN1 er2 ep hA D hr
            clear hq
            go_wp2_with fail
            go_loopw [18, 16] (fun v18 v16 wr => ∃ q r : Nat, v18 = .int .u64 (q : Int) ∧ v16 = .int .u64 (r : Int) ∧ wr = lay w [] ∧ DI 4294967296 R1 y1 y0 c0 q r ∧ r < 4294967296) (fun v18 _ _ => (intOf v18).toNat)
            case atStart =>
              obtain ⟨hyy, hy0, hy1b, hc1, hc0, hU, hr1, hR1, hr2, D1, D2, hup⟩ := HX.out
              exact ⟨Q2, T2, rfl, rfl, rfl, D2, by omega⟩
            case round =>
              obtain ⟨q, r, rfl, rfl, hw, D, hr⟩ := hrel
              rw [hw]
              clear hw
              obtain ⟨hyy, hy0, hy1b, hc1, hc0, hU, hr1, hR1, hr2, D1, D2, hup⟩ := HX.out
              have hqy := Nat.mul_le_mul D.qb (Nat.le_sub_one_of_lt hy0)
              have hqb := D.qb
              obtain ⟨P, eP⟩ : ∃ P, P = q * y0 := ⟨_, rfl⟩
              obtain ⟨N0, eN0⟩ : ∃ N0, N0 = 4294967296 * r := ⟨_, rfl⟩
              obtain ⟨N1, eN1⟩ : ∃ N1, N1 = N0 + c0 := ⟨_, rfl⟩
              obtain ⟨r2, er2⟩ : ∃ r2, r2 = r + y1 := ⟨_, rfl⟩
              obtain ⟨p, ep⟩ : ∃ p, p = q - 1 := ⟨_, rfl⟩
              have f1 : IntKind.u64.wrap ((q : Int) * (y0 : Int)) = (P : Int) := by rw [Mul64.mulN, ← eP]; exact Mul64.wrapN _ (by omega)
              have f2 : IntKind.u64.wrap (4294967296 * (r : Int)) = (N0 : Int) := by rw [IntKind.wrap_u64]; omega
              have f3 : IntKind.u64.wrap ((N0 : Int) + (c0 : Int)) = (N1 : Int) := by rw [IntKind.wrap_u64]; omega
              have f5 : IntKind.u64.wrap ((r : Int) + (y1 : Int)) = (r2 : Int) := by rw [IntKind.wrap_u64]; omega
              by_cases hA : 4294967296 ≤ q
              · have hA' : (4294967296 : Int) ≤ (q : Int) := by omega
                obtain ⟨p0, D', pB⟩ := di_step D hR1 hc0 (Or.inl hA)
                rw [← ep, ← er2] at D'
                rw [← ep] at pB
                have f4 : IntKind.u64.wrap ((q : Int) - 1) = (p : Int) := by rw [IntKind.wrap_u64]; omega
                by_cases hE : 4294967296 ≤ r2
                · have hE' : (4294967296 : Int) ≤ (r2 : Int) := by omega
                  obtain ⟨hq, -⟩ := di_done D' (di_break hy0 pB hE)
                  clear D' pB hE p0
                  rw [hyy] at hq
                  have k3 := HE.out.2.2 _ hq.symm
                  obtain ⟨k4, k5⟩ := K2.out _ hq.symm
                  clear hyy hy0 hy1b hc1 hc0 hU hr1 hR1 hr2 D1 D2 hup hqy hqb eP eN0 eN1 er2 ep hA D hr
                  clear hq
                  go_wp2_with fail
                  go_ret2
                  exact ⟨rfl, lay_ex w []⟩
                · have hE' : ¬ (4294967296 : Int) ≤ (r2 : Int) := by omega
                  have hm : p < q := by omega
                  have HK := Lib.hid (And.intro D' (And.intro hm (Nat.lt_of_not_le hE)))
                  clear hyy hy0 hy1b hc1 hc0 hU hr1 hR1 hr2 D1 D2 hup hqy hqb eP eN0 eN1 er2 ep hA D hr
                  clear D' pB hE hm p0
                  go_wp2_with fail
                  go_roundw
                  case rel => exact ⟨p, r2, rfl, rfl, by first | trivial | rfl, HK.out.1, HK.out.2.2⟩
                  case measure =>
                    have := HK.out.2.1
                    simp only [intOf]
                    omega
              · have hA' : ¬ (4294967296 : Int) ≤ (q : Int) := by omega
                by_cases hB : N1 < P
                · have hB' : (N1 : Int) < (P : Int) := Int.ofNat_lt.2 hB
                  obtain ⟨p0, D', pB⟩ := di_step D hR1 hc0 (Or.inr (by rw [← eP]; omega))
                  clear hB
                  rw [← ep, ← er2] at D'
                  rw [← ep] at pB
                  have f4 : IntKind.u64.wrap ((q : Int) - 1) = (p : Int) := by rw [IntKind.wrap_u64]; omega
                  by_cases hE : 4294967296 ≤ r2
                  · have hE' : (4294967296 : Int) ≤ (r2 : Int) := by omega
                    obtain ⟨hq, -⟩ := di_done D' (di_break hy0 pB hE)
                    clear D' pB hE p0
                    rw [hyy] at hq
                    have k3 := HE.out.2.2 _ hq.symm
                    obtain ⟨k4, k5⟩ := K2.out _ hq.symm
                    clear hyy hy0 hy1b hc1 hc0 hU hr1 hR1 hr2 D1 D2 hup hqy hqb eP eN0 eN1 er2 ep hA D hr
                    clear hq
                    go_wp2_with fail
                    go_ret2
                    exact ⟨rfl, lay_ex w []⟩
                  · have hE' : ¬ (4294967296 : Int) ≤ (r2 : Int) := by omega
                    have hm : p < q := by omega
                    have HK := Lib.hid (And.intro D' (And.intro hm (Nat.lt_of_not_le hE)))
                    clear hyy hy0 hy1b hc1 hc0 hU hr1 hR1 hr2 D1 D2 hup hqy hqb eP eN0 eN1 er2 ep hA D hr
                    clear D' pB hE hm p0
                    go_wp2_with fail
                    go_roundw
                    case rel => exact ⟨p, r2, rfl, rfl, by first | trivial | rfl, HK.out.1, HK.out.2.2⟩
                    case measure =>
                      have := HK.out.2.1
                      simp only [intOf]
                      omega
                · have hB' : ¬ (N1 : Int) < (P : Int) := fun h => hB (Int.ofNat_lt.1 h)
                  obtain ⟨hq, -⟩ := di_done D (by rw [← eP]; omega)
                  clear hB
                  rw [hyy] at hq
                  have k3 := HE.out.2.2 _ hq.symm
                  obtain ⟨k4, k5⟩ := K2.out _ hq.symm
                  clear hyy hy0 hy1b hc1 hc0 hU hr1 hR1 hr2 D1 D2 hup hqy hqb eP eN0 eN1 er2 ep hA D hr
                  clear hq
                  go_wp2_with fail
                  go_ret2
                  exact ⟨rfl, lay_ex w []⟩
          · have hE' : ¬ (4294967296 : Int) ≤ (r2 : Int) := by omega
            have hm : p < q := by omega
            have HK := Lib.hid (And.intro D' (And.intro hm (Nat.lt_of_not_le hE)))
            clear hyy hy0 hy1b hc1 hc0 hU hr1 hR1 hr2 D1 D2 hup hqy hqb eP eN0 eN1 er2 ep hA D hr
            clear D' pB hE hm p0
            go_wp2_with fail
            go_roundw
            case rel => exact ⟨p, r2, rfl, rfl, by first | trivial | rfl, HK.out.1, HK.out.2.2⟩
            case measure =>
              have := HK.out.2.1
              simp only [intOf]
              omega
        · have hB' : ¬ (N1 : Int) < (P : Int) := fun h => hB (Int.ofNat_lt.1 h)
          obtain ⟨hq, -⟩ := di_done D (by rw [← eP]; omega)
          clear hB
          rw [hyy] at hq
          have k1 := HE.out.1 _ hq.symm
          have K2 := Lib.hid (HE.out.2.1 _ hq.symm)
          clear hyy hy0 hy1b hc1 hc0 hU hr1 hR1 hr2 D1 D2 hup hqy hqb eP eN0 eN1 er2 ep hA D hr
          clear hq
          go_wp2_with fail
          go_loopw [18, 16] (fun v18 v16 wr => ∃ q r : Nat, v18 = .int .u64 (q : Int) ∧ v16 = .int .u64 (r : Int) ∧ wr = lay w [] ∧ DI 4294967296 R1 y1 y0 c0 q r ∧ r < 4294967296) (fun v18 _ _ => (intOf v18).toNat)
          case atStart =>
            obtain ⟨hyy, hy0, hy1b, hc1, hc0, hU, hr1, hR1, hr2, D1, D2, hup⟩ := HX.out
            exact ⟨Q2, T2, rfl, rfl, rfl, D2, by omega⟩
          case round =>
            obtain ⟨q, r, rfl, rfl, hw, D, hr⟩ := hrel
            rw [hw]
            clear hw
            obtain ⟨hyy, hy0, hy1b, hc1, hc0, hU, hr1, hR1, hr2, D1, D2, hup⟩ := HX.out
            have hqy := Nat.mul_le_mul D.qb (Nat.le_sub_one_of_lt hy0)
            have hqb := D.qb
            obtain ⟨P, eP⟩ : ∃ P, P = q * y0 := ⟨_, rfl⟩
            obtain ⟨N0, eN0⟩ : ∃ N0, N0 = 4294967296 * r := ⟨_, rfl⟩
            obtain ⟨N1, eN1⟩ : ∃ N1, N1 = N0 + c0 := ⟨_, rfl⟩
            obtain ⟨r2, er2⟩ : ∃ r2, r2 = r + y1 := ⟨_, rfl⟩
            obtain ⟨p, ep⟩ : ∃ p, p = q - 1 := ⟨_, rfl⟩
            have f1 : IntKind.u64.wrap ((q : Int) * (y0 : Int)) = (P : Int) := by rw [Mul64.mulN, ← eP]; exact Mul64.wrapN _ (by omega)
            have f2 : IntKind.u64.wrap (4294967296 * (r : Int)) = (N0 : Int) := by rw [IntKind.wrap_u64]; omega
            have f3 : IntKind.u64.wrap ((N0 : Int) + (c0 : Int)) = (N1 : Int) := by rw [IntKind.wrap_u64]; omega
            have f5 : IntKind.u64.wrap ((r : Int) + (y1 : Int)) = (r2 : Int) := by rw [IntKind.wrap_u64]; omega
            by_cases hA : 4294967296 ≤ q
            · have hA' : (4294967296 : Int) ≤ (q : Int) := by omega
              obtain ⟨p0, D', pB⟩ := di_step D hR1 hc0 (Or.inl hA)
              rw [← ep, ← er2] at D'
              rw [← ep] at pB
              have f4 : IntKind.u64.wrap ((q : Int) - 1) = (p : Int) := by rw [IntKind.wrap_u64]; omega
              by_cases hE : 4294967296 ≤ r2
              · have hE' : (4294967296 : Int) ≤ (r2 : Int) := by omega
                obtain ⟨hq, -⟩ := di_done D' (di_break hy0 pB hE)
                clear D' pB hE p0
                rw [hyy] at hq
                have k3 := HE.out.2.2 _ hq.symm
                obtain ⟨k4, k5⟩ := K2.out _ hq.symm
                clear hyy hy0 hy1b hc1 hc0 hU hr1 hR1 hr2 D1 D2 hup hqy hqb eP eN0 eN1 er2 ep hA D hr
                clear hq
                go_wp2_with fail
                go_ret2
                exact ⟨rfl, lay_ex w []⟩
              · have hE' : ¬ (4294967296 : Int) ≤ (r2 : Int) := by omega
                have hm : p < q := by omega
                have HK := Lib.hid (And.intro D' (And.intro hm (Nat.lt_of_not_le hE)))
                clear hyy hy0 hy1b hc1 hc0 hU hr1 hR1 hr2 D1 D2 hup hqy hqb eP eN0 eN1 er2 ep hA D hr
                clear D' pB hE hm p0
                go_wp2_with fail
                go_roundw
                case rel => exact ⟨p, r2, rfl, rfl, by first | trivial | rfl, HK.out.1, HK.out.2.2⟩
                case measure =>
                  have := HK.out.2.1
                  simp only [intOf]
                  omega
            · have hA' : ¬ (4294967296 : Int) ≤ (q : Int) := by omega
              by_cases hB : N1 < P
              · have hB' : (N1 : Int) < (P : Int) := Int.ofNat_lt.2 hB
                obtain ⟨p0, D', pB⟩ := di_step D hR1 hc0 (Or.inr (by rw [← eP]; omega))
                clear hB
                rw [← ep, ← er2] at D'
                rw [← ep] at pB
                have f4 : IntKind.u64.wrap ((q : Int) - 1) = (p : Int) := by rw [IntKind.wrap_u64]; omega
                by_cases hE : 4294967296 ≤ r2
                · have hE' : (4294967296 : Int) ≤ (r2 : Int) := by omega
                  obtain ⟨hq, -⟩ := di_done D' (di_break hy0 pB hE)
                  clear D' pB hE p0
                  rw [hyy] at hq
                  have k3 := HE.out.2.2 _ hq.symm
                  obtain ⟨k4, k5⟩ := K2.out _ hq.symm
                  clear hyy hy0 hy1b hc1 hc0 hU hr1 hR1 hr2 D1 D2 hup hqy hqb eP eN0 eN1 er2 ep hA D hr
                  clear hq
                  go_wp2_with fail
                  go_ret2
                  exact ⟨rfl, lay_ex w []⟩
                · have hE' : ¬ (4294967296 : Int) ≤ (r2 : Int) := by omega
                  have hm : p < q := by omega
                  have HK := Lib.hid (And.intro D' (And.intro hm (Nat.lt_of_not_le hE)))
                  clear hyy hy0 hy1b hc1 hc0 hU hr1 hR1 hr2 D1 D2 hup hqy hqb eP eN0 eN1 er2 ep hA D hr
                  clear D' pB hE hm p0
                  go_wp2_with fail
                  go_roundw
                  case rel => exact ⟨p, r2, rfl, rfl, by first | trivial | rfl, HK.out.1, HK.out.2.2⟩
                  case measure =>
                    have := HK.out.2.1
                    simp only [intOf]
                    omega
              · have hB' : ¬ (N1 : Int) < (P : Int) := fun h => hB (Int.ofNat_lt.1 h)
                obtain ⟨hq, -⟩ := di_done D (by rw [← eP]; omega)
                clear hB
                rw [hyy] at hq
                have k3 := HE.out.2.2 _ hq.symm
                obtain ⟨k4, k5⟩ := K2.out _ hq.symm
                clear hyy hy0 hy1b hc1 hc0 hU hr1 hR1 hr2 D1 D2 hup hqy hqb eP eN0 eN1 er2 ep hA D hr
                clear hq
                go_wp2_with fail
                go_ret2
                exact ⟨rfl, lay_ex w []⟩
theorem div64 (hi lo y : Nat) (hhi : hi < y) (hlo : lo < 18446744073709551616) (hy : y < 18446744073709551616) (w : World) :
    Calls Tryz.prog 167 #[.int .u64 (hi : Int), .int .u64 (lo : Int), .int .u64 (y : Int)] w fun e w' =>
      e = .returned (.tuple #[.int .u64 (((hi * 18446744073709551616 + lo) / y : Nat) : Int), .int .u64 (((hi * 18446744073709551616 + lo) % y : Nat) : Int)]) ∧ ∃ d, w' = bw w d :=
  div64' hi lo y _ _ rfl rfl hhi hlo hy w
end Go.Proofs.YtjfpgpipbooilaaGreat
/- Quotients of numbers of four words by a word. -/
namespace Go.Proofs.YtjfpgpipbooilaaGreat
open Go.RowKit

theorem valB_snoc {B x : Nat} : ∀ {l : List Nat}, valB B (l ++ [x]) = valB B l * B + x
  | [] => by simp [valB]
  | y :: l => by
    have ih := valB_snoc (B := B) (x := x) (l := l)
    simp only [List.cons_append, valB, ih, List.length_append, List.length_cons, List.length_nil, Nat.pow_succ]
    grind
theorem valB_take {B : Nat} {l : List Nat} {k : Nat} (h : k < l.length) : valB B (l.take (k + 1)) = valB B (l.take k) * B + nt l k := by
  rw [List.take_add_one, nt_lt h]
  exact valB_snoc
theorem take_set {l : List Nat} {i x : Nat} : (l.set i x).take i = l.take i := List.take_set_of_le (Nat.le_refl i)
theorem div_word {B t x d : Nat} (ht : t < d) (hx : x < B) : (t * B + x) / d < B := by
  rw [Nat.div_lt_iff_lt_mul (by omega)]
  have h1 : (t + 1) * B ≤ d * B := Nat.mul_le_mul_right _ ht
  rw [Nat.mul_comm B d]
  rw [Nat.succ_mul] at h1
  generalize d * B = D at *
  generalize t * B = T at *
  omega
structure DivI (a : List Nat) (t0 d : Nat) (r : List Nat) (k t : Nat) : Prop where
  wd : Wd 4 r
  old : ∀ j, k ≤ j → nt r j = nt a j
  td : t < d
  eq : t0 * 18446744073709551616 ^ k + valB 18446744073709551616 (a.take k) = valB 18446744073709551616 (r.take k) * d + t
theorem DivI.start {a : List Nat} {t0 d : Nat} (ha : Wd 4 a) (h : t0 < d) : DivI a t0 d a 0 t0 := ⟨ha, fun _ _ => rfl, h, by simp [valB]⟩
theorem DivI.step {a r : List Nat} {t0 d k t : Nat} (ha : Wd 4 a) (h : DivI a t0 d r k t) (hk : k < 4) : (t * 18446744073709551616 + nt r k) / d < 18446744073709551616 ∧ DivI a t0 d (r.set k ((t * 18446744073709551616 + nt r k) / d)) (k + 1) ((t * 18446744073709551616 + nt r k) % d) := by
  have hd : 0 < d := Nat.lt_of_le_of_lt (Nat.zero_le _) h.td
  have hx := h.wd.lt k
  have hq := div_word h.td hx
  refine ⟨hq, h.wd.set hk hq, fun j hj => ?_, Nat.mod_lt _ hd, ?_⟩
  · rw [nt_set (by rw [h.wd.len]; exact hk), if_neg (by omega)]
    exact h.old j (by omega)
  · rw [valB_take (by rw [ha.len]; exact hk), valB_take (by rw [List.length_set, h.wd.len]; exact hk), take_set, nt_set (by rw [h.wd.len]; exact hk), if_pos rfl, ← h.old k (Nat.le_refl k), Nat.pow_succ]
    have he := h.eq
    have hm := Nat.div_add_mod (t * 18446744073709551616 + nt r k) d
    generalize (t * 18446744073709551616 + nt r k) / d = q at *
    generalize (t * 18446744073709551616 + nt r k) % d = m at *
    generalize 18446744073709551616 ^ k = P at *
    generalize (18446744073709551616 : Nat) = B at *
    generalize valB B (a.take k) = A at *
    generalize valB B (r.take k) = R at *
    have e2 : (t0 * P + A) * B = (R * d + t) * B := by rw [he]
    grind
theorem DivI.done {a r : List Nat} {t0 d t : Nat} (ha : Wd 4 a) (h : DivI a t0 d r 4 t) : val4 r = (t0 * 18446744073709551616 ^ 4 + val4 a) / d := by
  have he := h.eq
  rw [List.take_of_length_le (by rw [ha.len]; exact Nat.le_refl 4), List.take_of_length_le (by rw [h.wd.len]; exact Nat.le_refl 4)] at he
  change t0 * 18446744073709551616 ^ 4 + val4 a = val4 r * d + t at he
  rw [he]
  have htd := h.td
  generalize val4 r = R at *
  rw [Nat.add_comm, Nat.add_mul_div_right _ _ (by omega), Nat.div_eq_of_lt htd, Nat.zero_add]

set_option maxHeartbeats 1000000 in
set_option maxRecDepth 100000 in
theorem nm_div (a : List Nat) (t0 dv : Nat) (ha : Wd 4 a) (ht : t0 < dv) (hd : dv < 18446744073709551616) (w : World) :
    Calls Tryz.prog 230 #[nuV a, .int .u64 (t0 : Int), .int .u64 (dv : Int)] w fun e w' => ∃ r d, e = .returned (nuV r) ∧ w' = bw w d ∧ Wd 4 r ∧ val4 r = (t0 * 18446744073709551616 ^ 4 + val4 a) / dv := by
  refine lay_start ?_
  unfold nuV
  go_enter Tryz.func230, Tryz.ntmps230
  go_wp2_with fail
  rw [← nuA_four ha.len]
  go_loopw [1, 8] (fun v1 v8 wr => ∃ (k t : Nat) (r : List Nat) (d : Ext), k ≤ 4 ∧ v1 = .int .u64 (t : Int) ∧ v8 = .int .i64 (k : Int) ∧ wr = lay w [.inr d, .inl (.cells #[.int .u64 0, .int .u64 0, .int .u64 0, .int .u64 0] 231 (0, 0)), .inl (.cells (nuA r) 231 (0, 0))] ∧ DivI a t0 dv r k t) (fun _ v8 _ => 4 - (intOf v8).toNat)
  case atStart => exact ⟨0, t0, a, noExt _, by omega, rfl, rfl, (bw_noExt _).symm, DivI.start ha ht⟩
  case round =>
    obtain ⟨k, t, r, d, hk, rfl, rfl, rfl, hS⟩ := hrel
    have HS := Lib.hid hS
    by_cases hk4 : k = 4
    · subst hk4
      have g0 := nuA_get (l := r) (i := 0) (by rw [hS.wd.len]; decide)
      have g1 := nuA_get (l := r) (i := 1) (by rw [hS.wd.len]; decide)
      have g2 := nuA_get (l := r) (i := 2) (by rw [hS.wd.len]; decide)
      have g3 := nuA_get (l := r) (i := 3) (by rw [hS.wd.len]; decide)
      clear hS
      go_wp2_with fail
      obtain ⟨dz, ez⟩ := lay_all w [.inr d, .inl (.cells #[.int .u64 (nt r 0 : Int), .int .u64 (nt r 1 : Int), .int .u64 (nt r 2 : Int), .int .u64 (nt r 3 : Int)] 231 (0, 0)), .inl (.cells (nuA r) 231 (0, 0))]
      exact bodyPost_ret (v := .agg #[.int .u64 (nt r 0 : Int), .int .u64 (nt r 1 : Int), .int .u64 (nt r 2 : Int), .int .u64 (nt r 3 : Int)]) (by simp [results, Tryz.results230, go_sem]) rfl ⟨r, dz, rfl, ez, HS.out.wd, HS.out.done ha⟩
    · have hi : k < 4 := by omega
      have x0 : (0 : Int) ≤ (k : Int) := by omega
      have x1 : (k : Int) < 4 := by omega
      have x2 : (k : Int).toNat = k := by omega
      obtain ⟨hq, hN⟩ := hS.step ha hi
      obtain ⟨X, hX⟩ : ∃ X, nt r k = X := ⟨_, rfl⟩
      have g0 := nuA_get (l := r) (i := k) (by rw [hS.wd.len]; exact hi)
      have HC := Lib.hid (fun W => div64 t X dv hS.td (by rw [← hX]; exact hS.wd.lt k) hd W)
      rw [hX] at g0 hN hq
      obtain ⟨Q, hQ⟩ : ∃ Q, (t * 18446744073709551616 + X) / dv = Q := ⟨_, rfl⟩
      obtain ⟨T, hT⟩ : ∃ T, (t * 18446744073709551616 + X) % dv = T := ⟨_, rfl⟩
      rw [hQ, hT] at hN HC
      have HN := Lib.hid hN
      clear hS hN hQ hT hX hq
      go_wp2_with (go_at_call 167; refine (HC.out _).mono ?_; rintro e w' ⟨rfl, d1, rfl⟩)
      rw [nuA_set]
      obtain ⟨d3, e3⟩ := lay_fold w [.inr d1, .inr d] [.inl (.cells #[.int .u64 0, .int .u64 0, .int .u64 0, .int .u64 0] 231 (0, 0)), .inl (.cells (nuA (r.set k Q)) 231 (0, 0))]
      change lay w [.inr d1, .inr d, .inl (.cells #[.int .u64 0, .int .u64 0, .int .u64 0, .int .u64 0] 231 (0, 0)), .inl (.cells (nuA (r.set k Q)) 231 (0, 0))] = _ at e3
      rw [e3]
      clear e3
      go_roundw
      case rel => exact ⟨k + 1, T, r.set k Q, d3, by omega, rfl, by first | rfl | exact congrArg (Value.int .i64) (by omega), rfl, HN.out⟩
      case measure => simp [intOf]; omega
end Go.Proofs.YtjfpgpipbooilaaGreat
