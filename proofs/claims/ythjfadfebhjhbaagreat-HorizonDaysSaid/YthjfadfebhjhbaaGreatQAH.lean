/- Contracts and plain laws, several texts in one: Shelf; Div2; Sid1; Sid2 -/
import Derived.Shelf.Small.Bits
import Derived.Shelf.Small.Wraps
import Derived.Shelf.Strconv.Itoa0
import Derived.Shelf.Sort.Plain
import Derived.Shelf.Bits.Mul64
import Derived.Shelf.Slices.Turned
import Derived.Ground.Names2Prog
import Derived.Shelf.Slices.Clone
import Derived.Shelf.Slices.CompactS
import Derived.Shelf.Slices.SearchI
import Derived.Shelf.Slices.Cells
import Derived.Shelf.Slices.In.SortNone
import Derived.Shelf.Slices.Empties
import Derived.Ground.SlgnProg
import Derived.Shelf.SlicesE.Clone
import Derived.Test.YthjfadfebhjhbaaGreatProg
import Derived.WalkKit
import Derived.WalkSpells
import Derived.WalkLawsBesides
import Derived.Lib.Hide
import Derived.BigQuiet
import Derived.Lib.ItoaNum
import Derived.Test.YthjfadfebhjhbaaGreatQAA
import Derived.Test.YthjfadfebhjhbaaGreatQAB
import Derived.Test.YthjfadfebhjhbaaGreatQAE
import Derived.Test.YthjfadfebhjhbaaGreatQAG
/- DERIVED: THE SHELF's CONTRACTS AT THIS DUMP, IN PLAIN WORDS (tools/lay-plain.mjs out of 'TryzShelf.lean', which tools/lay-shelf.mjs wrote): THE SAME DECLARATIONS UNDER THE SAME NAMES: 'import', 'namespace', 'open', 'def', 'theorem' AND NOTHING ELSE: no command of the shelf's: FOR A HAND-IN. Each laying: the table of numbers ('.._ren') and one theorem, a field a fact of the dump's own or the kernel's comparison; each contract: ONE APPLICATION. -/
namespace Go.Proofs
open Go.Shelf
def Tryz.lays134_ren : Go.Shelf.Ren := ⟨fun | 134 => 257 | 129 => 214 | n => n, fun | 53 => 229 | 3 => 3 | 4 => 4 | 46 => 109 | 5 => 5 | 9 => 9 | n => n, fun | n => n⟩
theorem Tryz.lays134 : Go.Proofs.Lays.n134 Tryz.prog Tryz.lays134_ren := {
  mixed := by kernel_rfl
  f129 := Tryz.func214.trans (congrArg some (by kernel_rfl))
  f134 := Tryz.func257.trans (congrArg some (by kernel_rfl))
  t3 := Tryz.underlying3
  a3 := Tryz.isAgg3
  z3 := Tryz.sizeOf3
  v3 := Tryz.zeroValue3
  t4 := Tryz.underlying4
  a4 := Tryz.isAgg4
  z4 := Tryz.sizeOf4
  v4 := Tryz.zeroValue4
  t5 := Tryz.underlying5
  a5 := Tryz.isAgg5
  z5 := Tryz.sizeOf5
  v5 := Tryz.zeroValue5
  t9 := Tryz.underlying9
  a9 := Tryz.isAgg9
  z9 := Tryz.sizeOf9
  v9 := Tryz.zeroValue9
  t46 := Tryz.underlying109
  a46 := Tryz.isAgg109
  z46 := Tryz.sizeOf109
  v46 := Tryz.zeroValue109
  t53 := Tryz.underlying229
  a53 := Tryz.isAgg229
  z53 := Tryz.sizeOf229
  v53 := Tryz.zeroValue229 }
theorem Tryz.bits_LeadingZeros64 (x : Int) (w : World) (h0 : 0 ≤ x) (h1 : x ≤ 18446744073709551615) :
    Calls Tryz.prog 257 #[.int .u64 x] w fun e w' => e = .returned (.int .i64 (64 - (Lib.bitLen x.toNat : Int))) ∧ w' = w := Any.bits_LeadingZeros64 Tryz.lays134 x w h0 h1
def Tryz.lays190_ren : Go.Shelf.Ren := ⟨fun | 190 => 132 | 125 => 172 | 258 => 171 | 128 => 213 | 129 => 214 | 302 => 204 | 303 => 205 | 304 => 206 | 305 => 207 | 306 => 208 | 307 => 209 | 308 => 210 | 309 => 211 | 310 => 212 | 333 => 240 | 329 => 241 | 330 => 242 | 334 => 243 | 335 => 244 | 336 => 245 | 344 => 272 | n => n, fun | 31 => 119 | 9 => 9 | 3 => 3 | 46 => 109 | 0 => 0 | 51 => 50 | 53 => 229 | 4 => 4 | 183 => 220 | 182 => 219 | 131 => 225 | 5 => 5 | 218 => 244 | 222 => 248 | 228 => 262 | 229 => 47 | n => n, fun | n => n⟩
theorem Tryz.lays190 : Go.Proofs.Lays.n190 Tryz.prog Tryz.lays190_ren := {
  mixed := by kernel_rfl
  f125 := Tryz.func172.trans (congrArg some (by kernel_rfl))
  f128 := Tryz.func213.trans (congrArg some (by kernel_rfl))
  f129 := Tryz.func214.trans (congrArg some (by kernel_rfl))
  f190 := Tryz.func132.trans (congrArg some (by kernel_rfl))
  f258 := Tryz.func171.trans (congrArg some (by kernel_rfl))
  f302 := Tryz.func204.trans (congrArg some (by kernel_rfl))
  f303 := Tryz.func205.trans (congrArg some (by kernel_rfl))
  f304 := Tryz.func206.trans (congrArg some (by kernel_rfl))
  f305 := Tryz.func207.trans (congrArg some (by kernel_rfl))
  f306 := Tryz.func208.trans (congrArg some (by kernel_rfl))
  f307 := Tryz.func209.trans (congrArg some (by kernel_rfl))
  f308 := Tryz.func210.trans (congrArg some (by kernel_rfl))
  f309 := Tryz.func211.trans (congrArg some (by kernel_rfl))
  f310 := Tryz.func212.trans (congrArg some (by kernel_rfl))
  f329 := Tryz.func241.trans (congrArg some (by kernel_rfl))
  f330 := Tryz.func242.trans (congrArg some (by kernel_rfl))
  f333 := Tryz.func240.trans (congrArg some (by kernel_rfl))
  f334 := Tryz.func243.trans (congrArg some (by kernel_rfl))
  f335 := Tryz.func244.trans (congrArg some (by kernel_rfl))
  f336 := Tryz.func245.trans (congrArg some (by kernel_rfl))
  f344 := Tryz.func272.trans (congrArg some (by kernel_rfl))
  t0 := Tryz.underlying0
  a0 := Tryz.isAgg0
  z0 := Tryz.sizeOf0
  v0 := Tryz.zeroValue0
  t3 := Tryz.underlying3
  a3 := Tryz.isAgg3
  z3 := Tryz.sizeOf3
  v3 := Tryz.zeroValue3
  t4 := Tryz.underlying4
  a4 := Tryz.isAgg4
  z4 := Tryz.sizeOf4
  v4 := Tryz.zeroValue4
  t5 := Tryz.underlying5
  a5 := Tryz.isAgg5
  z5 := Tryz.sizeOf5
  v5 := Tryz.zeroValue5
  t9 := Tryz.underlying9
  a9 := Tryz.isAgg9
  z9 := Tryz.sizeOf9
  v9 := Tryz.zeroValue9
  t31 := Tryz.underlying119
  a31 := Tryz.isAgg119
  z31 := Tryz.sizeOf119
  v31 := Tryz.zeroValue119
  t46 := Tryz.underlying109
  a46 := Tryz.isAgg109
  z46 := Tryz.sizeOf109
  v46 := Tryz.zeroValue109
  t51 := Tryz.underlying50
  a51 := Tryz.isAgg50
  z51 := Tryz.sizeOf50
  v51 := Tryz.zeroValue50
  t53 := Tryz.underlying229
  a53 := Tryz.isAgg229
  z53 := Tryz.sizeOf229
  v53 := Tryz.zeroValue229
  t131 := Tryz.underlying225
  a131 := Tryz.isAgg225
  z131 := Tryz.sizeOf225
  v131 := Tryz.zeroValue225
  t182 := Tryz.underlying219
  a182 := Tryz.isAgg219
  z182 := Tryz.sizeOf219
  v182 := Tryz.zeroValue219
  t183 := Tryz.underlying220
  a183 := Tryz.isAgg220
  z183 := Tryz.sizeOf220
  v183 := Tryz.zeroValue220
  t218 := Tryz.underlying244
  a218 := Tryz.isAgg244
  z218 := Tryz.sizeOf244
  v218 := Tryz.zeroValue244
  t222 := Tryz.underlying248
  a222 := Tryz.isAgg248
  z222 := Tryz.sizeOf248
  v222 := Tryz.zeroValue248
  t228 := Tryz.underlying262
  a228 := Tryz.isAgg262
  z228 := Tryz.sizeOf262
  v228 := Tryz.zeroValue262
  t229 := Tryz.underlying47
  a229 := Tryz.isAgg47
  z229 := Tryz.sizeOf47
  v229 := Tryz.zeroValue47 }
open Go.Sort Go.RowKit in
theorem Tryz.slices_Sort_string (blk off cap : Nat) (ss : List (List UInt8)) (w : World) (hH : Holds encStr w blk off ss.toArray) (hblk : blk < w.heap.size) (hsz : ss.length < 4611686018427387904) :
    Calls Tryz.prog 132 #[.slice (some ⟨blk, off, none⟩) ss.length cap] w fun e w' =>
      e = .returned (.tuple #[]) ∧ ∃ n os, w' = grow (putRow encStr (Sort.ahead w n) blk off (ss.mergeSort fun x y => decide (x ≤ y)).toArray) os := Any.slices_Sort_string Tryz.lays190 blk off cap ss w hH hblk hsz
def Tryz.lays264_ren : Go.Shelf.Ren := ⟨fun | 264 => 224 | n => n, fun | 53 => 229 | 46 => 109 | n => n, fun | n => n⟩
theorem Tryz.lays264 : Go.Proofs.Lays.n264 Tryz.prog Tryz.lays264_ren := {
  mixed := by kernel_rfl
  f264 := Tryz.func224.trans (congrArg some (by kernel_rfl))
  t46 := Tryz.underlying109
  a46 := Tryz.isAgg109
  z46 := Tryz.sizeOf109
  v46 := Tryz.zeroValue109
  t53 := Tryz.underlying229
  a53 := Tryz.isAgg229
  z53 := Tryz.sizeOf229
  v53 := Tryz.zeroValue229 }
open Go.RowKit Go.Lib in
theorem Tryz.bits_Mul64 (x y : Nat) (hx : x < 18446744073709551616) (hy : y < 18446744073709551616) (w : World) :
    Calls Tryz.prog 224 #[.int .u64 x, .int .u64 y] w fun e w' => e = .returned (.tuple #[.int .u64 ((x * y / 18446744073709551616 : Nat) : Int), .int .u64 ((x * y % 18446744073709551616 : Nat) : Int)]) ∧ w' = w := Any.bits_Mul64 Tryz.lays264 x y hx hy w
def Tryz.lays110_ren : Go.Shelf.Ren := ⟨fun | 110 => 92 | 109 => 134 | n => n, fun | 31 => 119 | 9 => 9 | 4 => 4 | 3 => 3 | 0 => 0 | n => n, fun | n => n⟩
theorem Tryz.lays110 : Go.Proofs.Lays.n110 Tryz.prog Tryz.lays110_ren := {
  mixed := by kernel_rfl
  f109 := Tryz.func134.trans (congrArg some (by kernel_rfl))
  f110 := Tryz.func92.trans (congrArg some (by kernel_rfl))
  t0 := Tryz.underlying0
  a0 := Tryz.isAgg0
  z0 := Tryz.sizeOf0
  v0 := Tryz.zeroValue0
  t3 := Tryz.underlying3
  a3 := Tryz.isAgg3
  z3 := Tryz.sizeOf3
  v3 := Tryz.zeroValue3
  t4 := Tryz.underlying4
  a4 := Tryz.isAgg4
  z4 := Tryz.sizeOf4
  v4 := Tryz.zeroValue4
  t9 := Tryz.underlying9
  a9 := Tryz.isAgg9
  z9 := Tryz.sizeOf9
  v9 := Tryz.zeroValue9
  t31 := Tryz.underlying119
  a31 := Tryz.isAgg119
  z31 := Tryz.sizeOf119
  v31 := Tryz.zeroValue119 }
open Go.Lib in
theorem Tryz.slices_Contains_string (b off n c : Nat) (zs : List ByteArray) (x : ByteArray) (w : World) (hz : n ≤ zs.length) (hbig : n ≤ 9223372036854775807) (hc : ∀ j, j < zs.length → w.cell? ⟨b, off + j, none⟩ = some (.string (zs.getD j ByteArray.empty))) :
    Calls Tryz.prog 92 #[.slice (some ⟨b, off, none⟩) n c, .string x] w fun e w' => e = .returned (.bool (Lib.containsS (zs.take n) x)) ∧ w' = w := Any.slices_Contains_string Tryz.lays110 b off n c zs x w hz hbig hc
open Go.Lib in
theorem Tryz.slices_Contains_string_empty (a : Option Addr) (c : Nat) (x : ByteArray) (w : World) :
    Calls Tryz.prog 92 #[.slice a 0 c, .string x] w fun e w' => e = .returned (.bool false) ∧ w' = w := Any.slices_Contains_string_empty Tryz.lays110 a c x w
def Tryz.laysNm215_ren : Go.Shelf.Ren := ⟨fun | 15 => 129 | n => n, fun | 22 => 96 | 3 => 3 | 4 => 4 | n => n, fun | n => n⟩
theorem Tryz.laysNm215 : Go.Proofs.Lays2.n15 Tryz.prog Tryz.laysNm215_ren := {
  mixed := by kernel_rfl
  f15 := Tryz.func129.trans (congrArg some (by kernel_rfl))
  t3 := Tryz.underlying3
  a3 := Tryz.isAgg3
  z3 := Tryz.sizeOf3
  v3 := Tryz.zeroValue3
  t4 := Tryz.underlying4
  a4 := Tryz.isAgg4
  z4 := Tryz.sizeOf4
  v4 := Tryz.zeroValue4
  t22 := Tryz.underlying96
  a22 := Tryz.isAgg96
  z22 := Tryz.sizeOf96
  v22 := Tryz.zeroValue96
  i3 := by kernel_rfl }
open Go.RowKit Go.Lib in
theorem Tryz.slices_Clone_int (b off n c : Nat) (zs : List Int) (w : World) (hz : n ≤ zs.length) (hbig : n * 8 ≤ 140737488355328) (hc : ∀ j, j < zs.length → w.cell? ⟨b, off + j, none⟩ = some (.int .i64 (zs.getD j 0))) :
    Calls Tryz.prog 129 #[.slice (some ⟨b, off, none⟩) n c] w fun e w' => ∃ v', e = .returned v' ∧ w'.ownsRow w.heap.size 3 1 v' n ((zs.take n).map (Value.int .i64)) ∧ v' ≠ .slice none 0 0 ∧ Below w.heap.size w w' := Any.slices_Clone_int Tryz.laysNm215 b off n c zs w hz hbig hc
open Go.RowKit Go.Lib in
theorem Tryz.slices_Clone_int_nil (n c : Nat) (w : World) :
    Calls Tryz.prog 129 #[.slice none n c] w fun e w' => e = .returned (.slice none 0 0) ∧ w' = w := Any.slices_Clone_int_nil Tryz.laysNm215 n c w
open Go.RowKit Go.Lib in
theorem Tryz.slices_Clone_int_zero (a : Addr) (c : Nat) (w : World) :
    Calls Tryz.prog 129 #[.slice (some a) 0 c] w fun e w' => ∃ v', e = .returned v' ∧ w'.ownsRow w.heap.size 3 1 v' 0 [] ∧ v' ≠ .slice none 0 0 ∧ Below w.heap.size w w' := Any.slices_Clone_int_zero Tryz.laysNm215 a c w
def Tryz.lays194_ren : Go.Shelf.Ren := ⟨fun | 194 => 133 | n => n, fun | 31 => 119 | 9 => 9 | 3 => 3 | 4 => 4 | 0 => 0 | n => n, fun | n => n⟩
theorem Tryz.lays194 : Go.Proofs.Lays.n194 Tryz.prog Tryz.lays194_ren := {
  mixed := by kernel_rfl
  f194 := Tryz.func133.trans (congrArg some (by kernel_rfl))
  t0 := Tryz.underlying0
  a0 := Tryz.isAgg0
  z0 := Tryz.sizeOf0
  v0 := Tryz.zeroValue0
  t3 := Tryz.underlying3
  a3 := Tryz.isAgg3
  z3 := Tryz.sizeOf3
  v3 := Tryz.zeroValue3
  t4 := Tryz.underlying4
  a4 := Tryz.isAgg4
  z4 := Tryz.sizeOf4
  v4 := Tryz.zeroValue4
  t9 := Tryz.underlying9
  a9 := Tryz.isAgg9
  z9 := Tryz.sizeOf9
  v9 := Tryz.zeroValue9
  t31 := Tryz.underlying119
  a31 := Tryz.isAgg119
  z31 := Tryz.sizeOf119
  v31 := Tryz.zeroValue119 }
open Go.RowKit Go.Lib Go.Sort in
theorem Tryz.slices_Compact_string (blk off cap : Nat) (zs : List (List UInt8)) (w : World) (hH : Holds encStr w blk off zs.toArray) (hsz : zs.length ≤ 9223372036854775807) (hcap : zs.length ≤ cap) :
    Calls Tryz.prog 133 #[.slice (some ⟨blk, off, none⟩) zs.length cap] w fun e w' => e = .returned (.slice (some ⟨blk, off, none⟩) (Lib.compact zs).length cap) ∧ ∃ q, w' = putRow encStr (Sort.ahead w q) blk off (Lib.compact zs ++ List.replicate (zs.length - (Lib.compact zs).length) []).toArray := Any.slices_Compact_string Tryz.lays194 blk off cap zs w hH hsz hcap
open Go.RowKit Go.Lib Go.Sort in
theorem Tryz.slices_Compact_string_empty (a : Option Addr) (cap : Nat) (w : World) :
    Calls Tryz.prog 133 #[.slice a 0 cap] w fun e w' => e = .returned (.slice a 0 cap) ∧ w' = w := Any.slices_Compact_string_empty Tryz.lays194 a cap w
def Tryz.laysNm225_ren : Go.Shelf.Ren := ⟨fun | 25 => 226 | 31 => 258 | 32 => 259 | 37 => 281 | n => n, fun | 22 => 96 | 3 => 3 | 4 => 4 | 40 => 109 | 0 => 0 | n => n, fun | n => n⟩
theorem Tryz.laysNm225 : Go.Proofs.Lays2.n25 Tryz.prog Tryz.laysNm225_ren := {
  mixed := by kernel_rfl
  f25 := Tryz.func226.trans (congrArg some (by kernel_rfl))
  f31 := Tryz.func258.trans (congrArg some (by kernel_rfl))
  f32 := Tryz.func259.trans (congrArg some (by kernel_rfl))
  f37 := Tryz.func281.trans (congrArg some (by kernel_rfl))
  t0 := Tryz.underlying0
  a0 := Tryz.isAgg0
  z0 := Tryz.sizeOf0
  v0 := Tryz.zeroValue0
  t3 := Tryz.underlying3
  a3 := Tryz.isAgg3
  z3 := Tryz.sizeOf3
  v3 := Tryz.zeroValue3
  t4 := Tryz.underlying4
  a4 := Tryz.isAgg4
  z4 := Tryz.sizeOf4
  v4 := Tryz.zeroValue4
  t22 := Tryz.underlying96
  a22 := Tryz.isAgg96
  z22 := Tryz.sizeOf96
  v22 := Tryz.zeroValue96
  t40 := Tryz.underlying109
  a40 := Tryz.isAgg109
  z40 := Tryz.sizeOf109
  v40 := Tryz.zeroValue109 }
open Go.RowKit Go.Lib in
theorem Tryz.slices_BinarySearch_int (b off n c : Nat) (zs : List Int) (x : Int) (w : World) (hz : n ≤ zs.length) (hbig : n < 4611686018427387904) (hc : ∀ j, j < zs.length → w.cell? ⟨b, off + j, none⟩ = some (.int .i64 (zs.getD j 0))) (hs : (zs.take n).Pairwise (· ≤ ·)) :
    Calls Tryz.prog 226 #[.slice (some ⟨b, off, none⟩) n c, .int .i64 x] w fun e w' => e = .returned (.tuple #[.int .i64 ((zs.take n).countP (· < x) : Nat), .bool ((zs.take n).contains x)]) ∧ ∃ q, w' = w.drewN q := Any.slices_BinarySearch_int Tryz.laysNm225 b off n c zs x w hz hbig hc hs
open Go.RowKit Go.Sort in
theorem Tryz.slices_Sort_string_none (p : Option Addr) (cap : Nat) (w : World) :
    Calls Tryz.prog 132 #[.slice p 0 cap] w fun e w' => e = .returned (.tuple #[]) ∧ w' = w := Any.slices_Sort_string_none Tryz.lays190 p cap w
open Go.RowKit Go.Lib in
theorem Tryz.slices_BinarySearch_int_empty (a : Option Addr) (c : Nat) (x : Int) (w : World) :
    Calls Tryz.prog 226 #[.slice a 0 c, .int .i64 x] w fun e w' => e = .returned (.tuple #[.int .i64 0, .bool false]) ∧ w' = w := Any.slices_BinarySearch_int_empty Tryz.laysNm225 a c x w
end Go.Proofs
/- The walk of math/bits.Div64. -/
namespace Go.Proofs.YthjfadfebhjhbaaGreat
open Go.RowKit

theorem div_nums {hi lo y s : Nat} (hhi : hi < y) (hlo : lo < 18446744073709551616) (hs : s ≤ 63) :
    lo / 2 ^ (64 - s) < 2 ^ s ∧ hi * 2 ^ s + lo / 2 ^ (64 - s) < y * 2 ^ s ∧ (hi * 18446744073709551616 + lo) * 2 ^ s = (hi * 2 ^ s + lo / 2 ^ (64 - s)) * 18446744073709551616 + lo * 2 ^ s % 18446744073709551616 := by
  have hpr : 2 ^ s * 2 ^ (64 - s) = 18446744073709551616 := by rw [← Nat.pow_add]; rw [show s + (64 - s) = 64 by omega]
  have hp : 0 < 2 ^ s := Nat.pow_pos (by decide)
  have hr : 0 < 2 ^ (64 - s) := Nat.pow_pos (by decide)
  generalize 2 ^ s = p at *
  generalize 2 ^ (64 - s) = r at *
  have h1 : lo / r < p := Nat.div_lt_of_lt_mul (by rw [Nat.mul_comm, hpr]; exact hlo)
  refine ⟨h1, ?_, ?_⟩
  · have : (hi + 1) * p ≤ y * p := Nat.mul_le_mul_right _ hhi
    rw [Nat.succ_mul] at this
    generalize y * p = A at *
    generalize hi * p = C at *
    omega
  · have h2 : lo * p = lo / r * 18446744073709551616 + lo % r * p := by
      rw [← hpr, Nat.mul_comm p r, ← Nat.mul_assoc, ← Nat.add_mul, Nat.mul_comm (lo / r) r, Nat.div_add_mod]
    have h3 : lo % r * p < 18446744073709551616 := by
      rw [← hpr, Nat.mul_comm p r]; exact Nat.mul_lt_mul_of_pos_right (Nat.mod_lt _ hr) hp
    rw [Nat.add_mul, Nat.add_mul, h2, Nat.mul_right_comm hi 18446744073709551616 p]
    generalize lo % r * p = A at *
    generalize hi * p = C at *
    generalize lo / r = D at *
    omega
theorem lz_of (y : Nat) (h0 : y ≠ 0) (h1 : y < 18446744073709551616) : ∃ s : Nat, s ≤ 63 ∧ (64 - (Lib.bitLen y : Int)) = (s : Int) ∧ y * 2 ^ s < 18446744073709551616 ∧ 9223372036854775808 ≤ y * 2 ^ s := by
  obtain ⟨b1, b2, b3⟩ := Lib.bitLenAux_bounds 64 y (by simpa using h1) h0
  have e : Lib.bitLenAux 64 y = Lib.bitLen y := rfl
  rw [e] at b1 b2 b3
  have h64 : Lib.bitLen y ≤ 64 := Lib.bitLen_le y 64 (by omega) (by simpa using h1)
  generalize Lib.bitLen y = k at *
  refine ⟨64 - k, by omega, by omega, ?_, ?_⟩
  · have : y * 2 ^ (64 - k) < 2 ^ k * 2 ^ (64 - k) := Nat.mul_lt_mul_of_pos_right b3 (Nat.pow_pos (by decide))
    rw [← Nat.pow_add, show k + (64 - k) = 64 by omega] at this
    exact this
  · have : 2 ^ (k - 1) * 2 ^ (64 - k) ≤ y * 2 ^ (64 - k) := Nat.mul_le_mul_right _ b2
    rw [← Nat.pow_add, show k - 1 + (64 - k) = 63 by omega] at this
    exact this
theorem pow_cast (y s : Nat) : (y : Int) * 2 ^ s = ((y * 2 ^ s : Nat) : Int) := by rw [Int.natCast_mul, Int.natCast_pow]; rfl
theorem or_add {a b s : Nat} (h : b < 2 ^ s) : (a * 2 ^ s ||| b) = a * 2 ^ s + b := by rw [Nat.mul_comm a]; exact (Nat.two_pow_add_eq_or_of_lt h a).symm
theorem tdiv_cast (a b : Nat) : ((a : Int).tdiv (b : Int)) = ((a / b : Nat) : Int) := by rw [Int.tdiv_eq_ediv_of_nonneg (by omega)]; exact (Int.natCast_ediv a b).symm
theorem wrap_tdiv (a b : Nat) (ha : a < 18446744073709551616) : IntKind.u64.wrap ((a : Int).tdiv (b : Int)) = ((a / b : Nat) : Int) := by
  rw [tdiv_cast]; exact Mul64.wrapN _ (Nat.lt_of_le_of_lt (Nat.div_le_self _ _) ha)
theorem wrap_rest (a b : Nat) (ha : a < 18446744073709551616) : IntKind.u64.wrap ((a : Int) - IntKind.u64.wrap (((a / b : Nat) : Int) * (b : Int))) = ((a % b : Nat) : Int) := by
  have h := Nat.div_add_mod a b
  rw [Nat.mul_comm] at h
  rw [Mul64.mulN, Mul64.wrapN _ (by omega), IntKind.wrap_u64]
  generalize a / b * b = A at *
  generalize a % b = C at *
  omega
theorem wrap_digit (U c Y q : Nat) (hY : 0 < Y) (hYb : Y < 18446744073709551616) (hq : q = (U * 4294967296 + c) / Y) :
    IntKind.u64.wrap (IntKind.u64.wrap (IntKind.u64.wrap ((U : Int) * 4294967296) + (c : Int)) - IntKind.u64.wrap ((q : Int) * (Y : Int))) = (((U * 4294967296 + c) % Y : Nat) : Int) := by
  have h := Nat.div_add_mod (U * 4294967296 + c) Y
  have hl := Nat.mod_lt (U * 4294967296 + c) hY
  rw [← hq, Nat.mul_comm] at h
  rw [Mul64.mulN, IntKind.wrap_u64, IntKind.wrap_u64, IntKind.wrap_u64, IntKind.wrap_u64]
  generalize q * Y = A at *
  generalize (U * 4294967296 + c) % Y = C at *
  omega
theorem wrap_two (q1 q0 T : Nat) (h : q1 * 4294967296 + q0 = T) (hT : T < 18446744073709551616) :
    IntKind.u64.wrap (IntKind.u64.wrap ((q1 : Int) * 4294967296) + (q0 : Int)) = (T : Int) := by
  rw [IntKind.wrap_u64, IntKind.wrap_u64]; omega
theorem join_gen (B U L : Nat) : (U * B + L / B) * B + L % B = U * (B * B) + L := by
  have h := Nat.div_add_mod L B
  rw [Nat.add_mul, Nat.mul_assoc, Nat.mul_comm (L / B), Nat.add_assoc, h]
theorem join_words (U L : Nat) : (U * 4294967296 + L / 4294967296) * 4294967296 + L % 4294967296 = U * 18446744073709551616 + L := by
  have h := join_gen 4294967296 U L
  have e : (4294967296 * 4294967296 : Nat) = 18446744073709551616 := by decide
  rw [e] at h
  exact h
set_option maxHeartbeats 4000000 in
theorem div64' (hi lo y qf rf : Nat) (hqf : qf = (hi * 18446744073709551616 + lo) / y) (hrf : rf = (hi * 18446744073709551616 + lo) % y) (hhi : hi < y) (hlo : lo < 18446744073709551616) (hy : y < 18446744073709551616) (w : World) :
    Calls Tryz.prog 225 #[.int .u64 (hi : Int), .int .u64 (lo : Int), .int .u64 (y : Int)] w fun e w' =>
      e = .returned (.tuple #[.int .u64 (qf : Int), .int .u64 (rf : Int)]) ∧ ∃ d, w' = bw w d := by
  refine lay_start ?_
  have hyz : (y : Int) ≠ 0 := by omega
  have hyn : ¬ y = 0 := by omega
  have hlt : ¬ (y : Int) ≤ (hi : Int) := by omega
  have hyb : ((y : Int) == 0) = false := by simp; omega
  by_cases h0 : hi = 0
  · subst h0
    have hq : IntKind.u64.wrap ((lo : Int).tdiv (y : Int)) = ((lo / y : Nat) : Int) := wrap_tdiv lo y hlo
    have hr : IntKind.u64.wrap ((lo : Int) % (y : Int)) = ((lo % y : Nat) : Int) := by
      rw [← Int.natCast_emod]; exact Mul64.wrapN _ (Nat.lt_of_le_of_lt (Nat.mod_le _ _) hlo)
    go_enter Tryz.func225, Tryz.ntmps225
    go_wp2_with fail
    refine region_bw (by kernel_rfl) (by kernel_rfl) ?_
    repeat (go_big_quiet_step ((first | fail)))
    refine wpQuiet_nil ?_
    rintro w' ⟨d, rfl⟩
    rw [lay_bw]
    go_wp2_with fail
    have hq' : IntKind.u64.wrap ((lo : Int) / (y : Int)) = ((lo / y : Nat) : Int) := by
      rw [← Int.natCast_ediv]; exact Mul64.wrapN _ (Nat.lt_of_le_of_lt (Nat.div_le_self _ _) hlo)
    go_ret2
    refine ⟨?_, lay_ex w _⟩
    rw [hq', ← Int.natCast_emod, hqf, hrf, Nat.zero_mul, Nat.zero_add]
    rfl
  · have h0b : ((hi : Int) == 0) = false := by simp; omega
    obtain ⟨s, hs, es, hup, hdn⟩ := lz_of y (by omega) hy
    obtain ⟨n1, n2, n3⟩ := div_nums hhi hlo hs
    have c := Tryz.bits_LeadingZeros64 (y : Int) (lay w []) (by omega) (by omega)
    rw [show ((y : Int).toNat) = y by omega, es] at c
    obtain ⟨hsh1, hsh2⟩ := shifted (hi * 18446744073709551616 + lo) y s
    have hTb : (hi * 18446744073709551616 + lo) / y < 18446744073709551616 := Nat.div_lt_of_lt_mul (by
      have : (hi + 1) * 18446744073709551616 ≤ y * 18446744073709551616 := Nat.mul_le_mul_right _ hhi
      omega)
    have eY : IntKind.u64.wrap ((y : Int) * 2 ^ s) = ((y * 2 ^ s : Nat) : Int) := by rw [pow_cast]; exact Mul64.wrapN _ hup
    have eL : IntKind.u64.wrap ((lo : Int) * 2 ^ s) = ((lo * 2 ^ s % 18446744073709551616 : Nat) : Int) := by rw [pow_cast]; exact Mul64.wrapM _
    obtain ⟨H0, eH0⟩ : ∃ H0, H0 = hi * 2 ^ s := ⟨_, rfl⟩
    obtain ⟨D0, eD0⟩ : ∃ D0, D0 = lo / 2 ^ (64 - s) := ⟨_, rfl⟩
    rw [← eH0, ← eD0] at n2 n3
    rw [← eD0] at n1
    have hhs : H0 < 18446744073709551616 := Nat.lt_of_le_of_lt (Nat.le_add_right _ _) (Nat.lt_trans n2 hup)
    have eH : IntKind.u64.wrap ((hi : Int) * 2 ^ s) = (H0 : Int) := by rw [pow_cast, ← eH0]; exact Mul64.wrapN _ hhs
    have eD : (lo : Int) / 2 ^ (64 - s) = (D0 : Int) := by rw [eD0, Int.natCast_ediv, Int.natCast_pow]; rfl
    have eO : bits .or .u64 (H0 : Int) (D0 : Int) = ((H0 + D0 : Nat) : Int) := by
      rw [bits_or_u64_nat _ _ hhs (Nat.lt_of_le_of_lt (Nat.le_add_left _ _) (Nat.lt_trans n2 hup)), eH0, or_add n1]
    have ep : ((M : Nat) → ((M : Nat) : Int) / 2 ^ s = ((M / 2 ^ s : Nat) : Int)) := fun M => by rw [Int.natCast_ediv, Int.natCast_pow]; rfl
    rw [n3] at hsh1 hsh2
    generalize hGL : lo * 2 ^ s % 18446744073709551616 = L at *
    generalize hGU : H0 + D0 = U at *
    generalize hGY : y * 2 ^ s = Y at *
    have hL : L < 18446744073709551616 := by rw [← hGL]; exact Nat.mod_lt _ (by decide)
    have m1 : bits .and .u64 (Y : Int) 4294967295 = ((Y % 4294967296 : Nat) : Int) := Mul64.maskN Y hup
    have m2 : bits .and .u64 (L : Int) 4294967295 = ((L % 4294967296 : Nat) : Int) := Mul64.maskN L hL
    have d1 : (Y : Int) / 4294967296 = ((Y / 4294967296 : Nat) : Int) := Mul64.divN _
    have d2 : (L : Int) / 4294967296 = ((L / 4294967296 : Nat) : Int) := Mul64.divN _
    obtain ⟨y1, hy1⟩ : ∃ y1, y1 = Y / 4294967296 := ⟨_, rfl⟩
    obtain ⟨y0, hy0e⟩ : ∃ y0, y0 = Y % 4294967296 := ⟨_, rfl⟩
    obtain ⟨c1, hc1e⟩ : ∃ c1, c1 = L / 4294967296 := ⟨_, rfl⟩
    obtain ⟨c0, hc0e⟩ : ∃ c0, c0 = L % 4294967296 := ⟨_, rfl⟩
    rw [← hy1] at d1
    rw [← hy0e] at m1
    rw [← hc1e] at d2
    rw [← hc0e] at m2
    have hyy : y1 * 4294967296 + y0 = Y := by omega
    have hy0 : y0 < 4294967296 := by omega
    have hy1b : y1 < 4294967296 := by omega
    have hc1 : c1 < 4294967296 := by omega
    have hc0 : c0 < 4294967296 := by omega
    have hy1u : 4294967296 ≤ 2 * y1 := by omega
    have hU : U < y1 * 4294967296 + y0 := by omega
    have hUb : U < 18446744073709551616 := by omega
    obtain ⟨Q1, eQ1⟩ : ∃ Q1, Q1 = U / y1 := ⟨_, rfl⟩
    obtain ⟨T1, eT1⟩ : ∃ T1, T1 = U % y1 := ⟨_, rfl⟩
    obtain ⟨D1, hr1⟩ := di_init hy1u hy0 hU hc1
    have g1 : IntKind.u64.wrap ((U : Int) / (y1 : Int)) = (Q1 : Int) := by rw [eQ1, ← wrap_tdiv U y1 hUb, tdiv_cast, Int.natCast_ediv]
    have g2 := wrap_rest U y1 hUb
    rw [← eQ1, ← eT1] at g2 D1
    rw [← eT1] at hr1
    obtain ⟨R1, hR1e⟩ : ∃ R1, R1 = (U * 4294967296 + c1) % Y := ⟨_, rfl⟩
    have hR1 : R1 < y1 * 4294967296 + y0 := by rw [hyy, hR1e]; exact Nat.mod_lt _ (by omega)
    have hR1b : R1 < 18446744073709551616 := by omega
    obtain ⟨Q2, eQ2⟩ : ∃ Q2, Q2 = R1 / y1 := ⟨_, rfl⟩
    obtain ⟨T2, eT2⟩ : ∃ T2, T2 = R1 % y1 := ⟨_, rfl⟩
    obtain ⟨D2, hr2⟩ := di_init hy1u hy0 hR1 hc0
    have g3 : IntKind.u64.wrap ((R1 : Int) / (y1 : Int)) = (Q2 : Int) := by rw [eQ2, ← wrap_tdiv R1 y1 hR1b, tdiv_cast, Int.natCast_ediv]
    have g4 := wrap_rest R1 y1 hR1b
    rw [← eQ2, ← eT2] at g4 D2
    rw [← eT2] at hr2
    have hT : ∀ q1 : Nat, q1 = (U * 4294967296 + c1) / Y → IntKind.u64.wrap (IntKind.u64.wrap (IntKind.u64.wrap ((U : Int) * 4294967296) + (c1 : Int)) - IntKind.u64.wrap ((q1 : Int) * (Y : Int))) = (R1 : Int) := fun q1 h => by
      rw [hR1e]; exact wrap_digit U c1 Y q1 (by omega) (by omega) h
    obtain ⟨t1, t2⟩ := two_digits (B := 4294967296) (U := U) (c1 := c1) (c0 := c0) (y := Y) (by omega)
    have hML : (U * 4294967296 + c1) * 4294967296 + c0 = U * 18446744073709551616 + L := by rw [hc1e, hc0e]; exact join_words U L
    rw [hML, hsh1] at t1
    rw [hML] at t2
    rw [← hR1e] at t1 t2
    rw [← hqf] at t1
    obtain ⟨R0, hR0⟩ : ∃ R0, R0 = (R1 * 4294967296 + c0) % Y := ⟨_, rfl⟩
    rw [← hqf] at hTb
    rw [t2] at hsh2
    have hE1 : ∀ q1 : Nat, q1 = (U * 4294967296 + c1) / Y → ∀ q0 : Nat, q0 = (R1 * 4294967296 + c0) / Y → IntKind.u64.wrap (IntKind.u64.wrap ((q1 : Int) * 4294967296) + (q0 : Int)) = (qf : Int) ∧ IntKind.u64.wrap ((q1 : Int) * 4294967296 + (q0 : Int)) = (qf : Int) := fun q1 h1 q0 h0 => by
      have e : q1 * 4294967296 + q0 = qf := by rw [t1, h1, h0]
      refine ⟨wrap_two q1 q0 _ e hTb, ?_⟩
      rw [IntKind.wrap_u64]; omega
    have hE2 : ∀ q0 : Nat, q0 = (R1 * 4294967296 + c0) / Y → IntKind.u64.wrap (IntKind.u64.wrap (IntKind.u64.wrap ((R1 : Int) * 4294967296) + (c0 : Int)) - IntKind.u64.wrap ((q0 : Int) * (Y : Int))) = (R0 : Int) := fun q0 h => by
      rw [hR0]; exact wrap_digit R1 c0 Y q0 (by omega) (by omega) h
    have hE3 : (R0 : Int) / 2 ^ s = (rf : Int) := by rw [ep, hR0, hsh2, hrf]
    have hy1z : (y1 : Int) ≠ 0 := by omega
    have hy1n : ¬ y1 = 0 := by omega
    clear t1 t2 hML hsh1 hsh2 hGL hGU hGY n1 n2 n3 ep es hR1e hTb eQ1 eT1 eQ2 eT2 hR0 eH0 eD0 hqf hrf hL hhs hUb hR1b hy1u hdn
    have HX := Lib.hid (And.intro hyy (And.intro hy0 (And.intro hy1b (And.intro hc1 (And.intro hc0 (And.intro hU (And.intro hr1 (And.intro hR1 (And.intro hr2 (And.intro D1 (And.intro D2 hup)))))))))))
    have HE := Lib.hid (And.intro hT (And.intro hE1 hE2))
    clear hyy hy0 hy1b hc1 hc0 hU hr1 hR1 hr2 D1 D2 hT hE1 hE2 hup hy1 hy0e hc1e hc0e hhi hlo hy h0
    go_enter Tryz.func225, Tryz.ntmps225
    go_wp2_with (first | (go_at_call 257; refine c.mono ?_; rintro e w' ⟨rfl, hw⟩; rw [hw]))
    go_loopw [15, 16] (fun v15 v16 wr => ∃ q r : Nat, v15 = .int .u64 (q : Int) ∧ v16 = .int .u64 (r : Int) ∧ wr = lay w [] ∧ DI 4294967296 U y1 y0 c1 q r ∧ r < 4294967296) (fun v15 _ _ => (intOf v15).toNat)
    case atStart =>
      obtain ⟨hyy, hy0, hy1b, hc1, hc0, hU, hr1, hR1, hr2, D1, D2, hup⟩ := HX.out
      exact ⟨Q1, T1, rfl, rfl, rfl, D1, by omega⟩
    case round =>
      obtain ⟨q, r, rfl, rfl, hw, D, hr⟩ := hrel
      rw [hw]
      clear hw
      obtain ⟨hyy, hy0, hy1b, hc1, hc0, hU, hr1, hR1, hr2, D1, D2, hup⟩ := HX.out
      have hqy := Nat.mul_le_mul D.qb (Nat.le_sub_one_of_lt hy0)
      have hqb := D.qb
      obtain ⟨P, eP⟩ : ∃ P, P = q * y0 := ⟨_, rfl⟩
      obtain ⟨N0, eN0⟩ : ∃ N0, N0 = 4294967296 * r := ⟨_, rfl⟩
      obtain ⟨N1, eN1⟩ : ∃ N1, N1 = N0 + c1 := ⟨_, rfl⟩
      obtain ⟨r2, er2⟩ : ∃ r2, r2 = r + y1 := ⟨_, rfl⟩
      obtain ⟨p, ep⟩ : ∃ p, p = q - 1 := ⟨_, rfl⟩
      have f1 : IntKind.u64.wrap ((q : Int) * (y0 : Int)) = (P : Int) := by rw [Mul64.mulN, ← eP]; exact Mul64.wrapN _ (by omega)
      have f2 : IntKind.u64.wrap (4294967296 * (r : Int)) = (N0 : Int) := by rw [IntKind.wrap_u64]; omega
      have f3 : IntKind.u64.wrap ((N0 : Int) + (c1 : Int)) = (N1 : Int) := by rw [IntKind.wrap_u64]; omega
      have f5 : IntKind.u64.wrap ((r : Int) + (y1 : Int)) = (r2 : Int) := by rw [IntKind.wrap_u64]; omega
      by_cases hA : 4294967296 ≤ q
      · have hA' : (4294967296 : Int) ≤ (q : Int) := by omega
        obtain ⟨p0, D', pB⟩ := di_step D hU hc1 (Or.inl hA)
        rw [← ep, ← er2] at D'
        rw [← ep] at pB
        have f4 : IntKind.u64.wrap ((q : Int) - 1) = (p : Int) := by rw [IntKind.wrap_u64]; omega
        by_cases hE : 4294967296 ≤ r2
        · have hE' : (4294967296 : Int) ≤ (r2 : Int) := by omega
          obtain ⟨hq, -⟩ := di_done D' (di_break hy0 pB hE)
          clear D' pB hE p0
          rw [hyy] at hq
          have k1 := HE.out.1 _ hq.symm
          have K2 := Lib.hid (HE.out.2.1 _ hq.symm)
          clear hyy hy0 hy1b hc1 hc0 hU hr1 hR1 hr2 D1 D2 hup hqy hqb eP eN0 eN1 er2 ep hA D hr
          clear hq
          go_wp2_with fail
          go_loopw [18, 16] (fun v18 v16 wr => ∃ q r : Nat, v18 = .int .u64 (q : Int) ∧ v16 = .int .u64 (r : Int) ∧ wr = lay w [] ∧ DI 4294967296 R1 y1 y0 c0 q r ∧ r < 4294967296) (fun v18 _ _ => (intOf v18).toNat)
          case atStart =>
            obtain ⟨hyy, hy0, hy1b, hc1, hc0, hU, hr1, hR1, hr2, D1, D2, hup⟩ := HX.out
            exact ⟨Q2, T2, rfl, rfl, rfl, D2, by omega⟩
          case round =>
            obtain ⟨q, r, rfl, rfl, hw, D, hr⟩ := hrel
            rw [hw]
            clear hw
            obtain ⟨hyy, hy0, hy1b, hc1, hc0, hU, hr1, hR1, hr2, D1, D2, hup⟩ := HX.out
            have hqy := Nat.mul_le_mul D.qb (Nat.le_sub_one_of_lt hy0)
            have hqb := D.qb
            obtain ⟨P, eP⟩ : ∃ P, P = q * y0 := ⟨_, rfl⟩
            obtain ⟨N0, eN0⟩ : ∃ N0, N0 = 4294967296 * r := ⟨_, rfl⟩
            obtain ⟨N1, eN1⟩ : ∃ N1, N1 = N0 + c0 := ⟨_, rfl⟩
            obtain ⟨r2, er2⟩ : ∃ r2, r2 = r + y1 := ⟨_, rfl⟩
            obtain ⟨p, ep⟩ : ∃ p, p = q - 1 := ⟨_, rfl⟩
            have f1 : IntKind.u64.wrap ((q : Int) * (y0 : Int)) = (P : Int) := by rw [Mul64.mulN, ← eP]; exact Mul64.wrapN _ (by omega)
            have f2 : IntKind.u64.wrap (4294967296 * (r : Int)) = (N0 : Int) := by rw [IntKind.wrap_u64]; omega
            have f3 : IntKind.u64.wrap ((N0 : Int) + (c0 : Int)) = (N1 : Int) := by rw [IntKind.wrap_u64]; omega
            have f5 : IntKind.u64.wrap ((r : Int) + (y1 : Int)) = (r2 : Int) := by rw [IntKind.wrap_u64]; omega
            by_cases hA : 4294967296 ≤ q
            · have hA' : (4294967296 : Int) ≤ (q : Int) := by omega
              obtain ⟨p0, D', pB⟩ := di_step D hR1 hc0 (Or.inl hA)
              rw [← ep, ← er2] at D'
              rw [← ep] at pB
              have f4 : IntKind.u64.wrap ((q : Int) - 1) = (p : Int) := by rw [IntKind.wrap_u64]; omega
              by_cases hE : 4294967296 ≤ r2
              · have hE' : (4294967296 : Int) ≤ (r2 : Int) := by omega
                obtain ⟨hq, -⟩ := di_done D' (di_break hy0 pB hE)
                clear D' pB hE p0
                rw [hyy] at hq
                have k3 := HE.out.2.2 _ hq.symm
                obtain ⟨k4, k5⟩ := K2.out _ hq.symm
                clear hyy hy0 hy1b hc1 hc0 hU hr1 hR1 hr2 D1 D2 hup hqy hqb eP eN0 eN1 er2 ep hA D hr
                clear hq
                go_wp2_with fail
                go_ret2
                exact ⟨rfl, lay_ex w []⟩
              · have hE' : ¬ (4294967296 : Int) ≤ (r2 : Int) := by omega
                have hm : p < q := by omega
                have HK := Lib.hid (And.intro D' (And.intro hm (Nat.lt_of_not_le hE)))
                clear hyy hy0 hy1b hc1 hc0 hU hr1 hR1 hr2 D1 D2 hup hqy hqb eP eN0 eN1 er2 ep hA D hr
                clear D' pB hE hm p0
                go_wp2_with fail
                go_roundw
                case rel => exact ⟨p, r2, rfl, rfl, by first | trivial | rfl, HK.out.1, HK.out.2.2⟩
                case measure =>
                  have := HK.out.2.1
                  simp only [intOf]
                  omega
            · have hA' : ¬ (4294967296 : Int) ≤ (q : Int) := by omega
              by_cases hB : N1 < P
              · have hB' : (N1 : Int) < (P : Int) := Int.ofNat_lt.2 hB
                obtain ⟨p0, D', pB⟩ := di_step D hR1 hc0 (Or.inr (by rw [← eP]; omega))
                clear hB
                rw [← ep, ← er2] at D'
                rw [← ep] at pB
                have f4 : IntKind.u64.wrap ((q : Int) - 1) = (p : Int) := by rw [IntKind.wrap_u64]; omega
                by_cases hE : 4294967296 ≤ r2
                · have hE' : (4294967296 : Int) ≤ (r2 : Int) := by omega
                  obtain ⟨hq, -⟩ := di_done D' (di_break hy0 pB hE)
                  clear D' pB hE p0
                  rw [hyy] at hq
                  have k3 := HE.out.2.2 _ hq.symm
                  obtain ⟨k4, k5⟩ := K2.out _ hq.symm
                  clear hyy hy0 hy1b hc1 hc0 hU hr1 hR1 hr2 D1 D2 hup hqy hqb eP eN0 eN1 er2 ep hA D hr
                  clear hq
                  go_wp2_with fail
                  go_ret2
                  exact ⟨rfl, lay_ex w []⟩
                · have hE' : ¬ (4294967296 : Int) ≤ (r2 : Int) := by omega
                  have hm : p < q := by omega
                  have HK := Lib.hid (And.intro D' (And.intro hm (Nat.lt_of_not_le hE)))
                  clear hyy hy0 hy1b hc1 hc0 hU hr1 hR1 hr2 D1 D2 hup hqy hqb eP eN0 eN1 er2 ep hA D hr
                  clear D' pB hE hm p0
                  go_wp2_with fail
                  go_roundw
                  case rel => exact ⟨p, r2, rfl, rfl, by first | trivial | rfl, HK.out.1, HK.out.2.2⟩
                  case measure =>
                    have := HK.out.2.1
                    simp only [intOf]
                    omega
              · have hB' : ¬ (N1 : Int) < (P : Int) := fun h => hB (Int.ofNat_lt.1 h)
                obtain ⟨hq, -⟩ := di_done D (by rw [← eP]; omega)
                clear hB
                rw [hyy] at hq
                have k3 := HE.out.2.2 _ hq.symm
                obtain ⟨k4, k5⟩ := K2.out _ hq.symm
                clear hyy hy0 hy1b hc1 hc0 hU hr1 hR1 hr2 D1 D2 hup hqy hqb eP eN0 eN1 er2 ep hA D hr
                clear hq
                go_wp2_with fail
                go_ret2
                exact ⟨rfl, lay_ex w []⟩
        · have hE' : ¬ (4294967296 : Int) ≤ (r2 : Int) := by omega
          have hm : p < q := by omega
          have HK := Lib.hid (And.intro D' (And.intro hm (Nat.lt_of_not_le hE)))
          clear hyy hy0 hy1b hc1 hc0 hU hr1 hR1 hr2 D1 D2 hup hqy hqb eP eN0 eN1 er2 ep hA D hr
          clear D' pB hE hm p0
          go_wp2_with fail
          go_roundw
          case rel => exact ⟨p, r2, rfl, rfl, by first | trivial | rfl, HK.out.1, HK.out.2.2⟩
          case measure =>
            have := HK.out.2.1
            simp only [intOf]
            omega
      · have hA' : ¬ (4294967296 : Int) ≤ (q : Int) := by omega
        by_cases hB : N1 < P
        · have hB' : (N1 : Int) < (P : Int) := Int.ofNat_lt.2 hB
          obtain ⟨p0, D', pB⟩ := di_step D hU hc1 (Or.inr (by rw [← eP]; omega))
          clear hB
          rw [← ep, ← er2] at D'
          rw [← ep] at pB
          have f4 : IntKind.u64.wrap ((q : Int) - 1) = (p : Int) := by rw [IntKind.wrap_u64]; omega
          by_cases hE : 4294967296 ≤ r2
          · have hE' : (4294967296 : Int) ≤ (r2 : Int) := by omega
            obtain ⟨hq, -⟩ := di_done D' (di_break hy0 pB hE)
            clear D' pB hE p0
            rw [hyy] at hq
            have k1 := HE.out.1 _ hq.symm
            have K2 := Lib.hid (HE.out.2.1 _ hq.symm)
            clear hyy hy0 hy1b hc1 hc0 hU hr1 hR1 hr2 D1 D2 hup hqy hqb eP eN0 eN1 er2 ep hA D hr
            clear hq
            go_wp2_with fail
            go_loopw [18, 16] (fun v18 v16 wr => ∃ q r : Nat, v18 = .int .u64 (q : Int) ∧ v16 = .int .u64 (r : Int) ∧ wr = lay w [] ∧ DI 4294967296 R1 y1 y0 c0 q r ∧ r < 4294967296) (fun v18 _ _ => (intOf v18).toNat)
            case atStart =>
              obtain ⟨hyy, hy0, hy1b, hc1, hc0, hU, hr1, hR1, hr2, D1, D2, hup⟩ := HX.out
              exact ⟨Q2, T2, rfl, rfl, rfl, D2, by omega⟩
            case round =>
              obtain ⟨q, r, rfl, rfl, hw, D, hr⟩ := hrel
              rw [hw]
              clear hw
              obtain ⟨hyy, hy0, hy1b, hc1, hc0, hU, hr1, hR1, hr2, D1, D2, hup⟩ := HX.out
              have hqy := Nat.mul_le_mul D.qb (Nat.le_sub_one_of_lt hy0)
              have hqb := D.qb
              obtain ⟨P, eP⟩ : ∃ P, P = q * y0 := ⟨_, rfl⟩
              obtain ⟨N0, eN0⟩ : ∃ N0, N0 = 4294967296 * r := ⟨_, rfl⟩
              obtain ⟨N1, eN1⟩ : ∃ N1, N1 = N0 + c0 := ⟨_, rfl⟩
              obtain ⟨r2, er2⟩ : ∃ r2, r2 = r + y1 := ⟨_, rfl⟩
              obtain ⟨p, ep⟩ : ∃ p, p = q - 1 := ⟨_, rfl⟩
              have f1 : IntKind.u64.wrap ((q : Int) * (y0 : Int)) = (P : Int) := by rw [Mul64.mulN, ← eP]; exact Mul64.wrapN _ (by omega)
              have f2 : IntKind.u64.wrap (4294967296 * (r : Int)) = (N0 : Int) := by rw [IntKind.wrap_u64]; omega
              have f3 : IntKind.u64.wrap ((N0 : Int) + (c0 : Int)) = (N1 : Int) := by rw [IntKind.wrap_u64]; omega
              have f5 : IntKind.u64.wrap ((r : Int) + (y1 : Int)) = (r2 : Int) := by rw [IntKind.wrap_u64]; omega
              by_cases hA : 4294967296 ≤ q
              · have hA' : (4294967296 : Int) ≤ (q : Int) := by omega
                obtain ⟨p0, D', pB⟩ := di_step D hR1 hc0 (Or.inl hA)
                rw [← ep, ← er2] at D'
                rw [← ep] at pB
                have f4 : IntKind.u64.wrap ((q : Int) - 1) = (p : Int) := by rw [IntKind.wrap_u64]; omega
                by_cases hE : 4294967296 ≤ r2
                · have hE' : (4294967296 : Int) ≤ (r2 : Int) := by omega
                  obtain ⟨hq, -⟩ := di_done D' (di_break hy0 pB hE)
                  clear D' pB hE p0
                  rw [hyy] at hq
                  have k3 := HE.out.2.2 _ hq.symm
                  obtain ⟨k4, k5⟩ := K2.out _ hq.symm
                  clear hyy hy0 hy1b hc1 hc0 hU hr1 hR1 hr2 D1 D2 hup hqy hqb eP eN0 eN1 er2 ep hA D hr
                  clear hq
                  go_wp2_with fail
                  go_ret2
                  exact ⟨rfl, lay_ex w []⟩
                · have hE' : ¬ (4294967296 : Int) ≤ (r2 : Int) := by omega
                  have hm : p < q := by omega
                  have HK := Lib.hid (And.intro D' (And.intro hm (Nat.lt_of_not_le hE)))
                  clear hyy hy0 hy1b hc1 hc0 hU hr1 hR1 hr2 D1 D2 hup hqy hqb eP eN0 eN1 er2 ep hA D hr
                  clear D' pB hE hm p0
                  go_wp2_with fail
                  go_roundw
                  case rel => exact ⟨p, r2, rfl, rfl, by first | trivial | rfl, HK.out.1, HK.out.2.2⟩
                  case measure =>
                    have := HK.out.2.1
                    simp only [intOf]
                    omega
              · have hA' : ¬ (4294967296 : Int) ≤ (q : Int) := by omega
                by_cases hB : N1 < P
                · have hB' : (N1 : Int) < (P : Int) := Int.ofNat_lt.2 hB
                  obtain ⟨p0, D', pB⟩ := di_step D hR1 hc0 (Or.inr (by rw [← eP]; omega))
                  clear hB
                  rw [← ep, ← er2] at D'
                  rw [← ep] at pB
                  have f4 : IntKind.u64.wrap ((q : Int) - 1) = (p : Int) := by rw [IntKind.wrap_u64]; omega
                  by_cases hE : 4294967296 ≤ r2
                  · have hE' : (4294967296 : Int) ≤ (r2 : Int) := by omega
                    obtain ⟨hq, -⟩ := di_done D' (di_break hy0 pB hE)
                    clear D' pB hE p0
                    rw [hyy] at hq
                    have k3 := HE.out.2.2 _ hq.symm
                    obtain ⟨k4, k5⟩ := K2.out _ hq.symm
                    clear hyy hy0 hy1b hc1 hc0 hU hr1 hR1 hr2 D1 D2 hup hqy hqb eP eN0 eN1 er2 ep hA D hr
                    clear hq
                    go_wp2_with fail
                    go_ret2
                    exact ⟨rfl, lay_ex w []⟩
                  · have hE' : ¬ (4294967296 : Int) ≤ (r2 : Int) := by omega
                    have hm : p < q := by omega
                    have HK := Lib.hid (And.intro D' (And.intro hm (Nat.lt_of_not_le hE)))
                    clear hyy hy0 hy1b hc1 hc0 hU hr1 hR1 hr2 D1 D2 hup hqy hqb eP eN0 eN1 er2 ep hA D hr
                    clear D' pB hE hm p0
                    go_wp2_with fail
                    go_roundw
                    case rel => exact ⟨p, r2, rfl, rfl, by first | trivial | rfl, HK.out.1, HK.out.2.2⟩
                    case measure =>
                      have := HK.out.2.1
                      simp only [intOf]
                      omega
                · have hB' : ¬ (N1 : Int) < (P : Int) := fun h => hB (Int.ofNat_lt.1 h)
                  obtain ⟨hq, -⟩ := di_done D (by rw [← eP]; omega)
                  clear hB
                  rw [hyy] at hq
                  have k3 := HE.out.2.2 _ hq.symm
                  obtain ⟨k4, k5⟩ := K2.out _ hq.symm
                  clear hyy hy0 hy1b hc1 hc0 hU hr1 hR1 hr2 D1 D2 hup hqy hqb eP eN0 eN1 er2 ep hA D hr
                  clear hq
                  go_wp2_with fail
                  go_ret2
                  exact ⟨rfl, lay_ex w []⟩
          · have hE' : ¬ (4294967296 : Int) ≤ (r2 : Int) := by omega
            have hm : p < q := by omega
            have HK := Lib.hid (And.intro D' (And.intro hm (Nat.lt_of_not_le hE)))
            clear hyy hy0 hy1b hc1 hc0 hU hr1 hR1 hr2 D1 D2 hup hqy hqb eP eN0 eN1 er2 ep hA D hr
            clear D' pB hE hm p0
            go_wp2_with fail
            go_roundw
            case rel => exact ⟨p, r2, rfl, rfl, by first | trivial | rfl, HK.out.1, HK.out.2.2⟩
            case measure =>
              have := HK.out.2.1
              simp only [intOf]
              omega
        · have hB' : ¬ (N1 : Int) < (P : Int) := fun h => hB (Int.ofNat_lt.1 h)
          obtain ⟨hq, -⟩ := di_done D (by rw [← eP]; omega)
          clear hB
          rw [hyy] at hq
          have k1 := HE.out.1 _ hq.symm
          have K2 := Lib.hid (HE.out.2.1 _ hq.symm)
          clear hyy hy0 hy1b hc1 hc0 hU hr1 hR1 hr2 D1 D2 hup hqy hqb eP eN0 eN1 er2 ep hA D hr
          clear hq
          go_wp2_with fail
          go_loopw [18, 16] (fun v18 v16 wr => ∃ q r : Nat, v18 = .int .u64 (q : Int) ∧ v16 = .int .u64 (r : Int) ∧ wr = lay w [] ∧ DI 4294967296 R1 y1 y0 c0 q r ∧ r < 4294967296) (fun v18 _ _ => (intOf v18).toNat)
          case atStart =>
            obtain ⟨hyy, hy0, hy1b, hc1, hc0, hU, hr1, hR1, hr2, D1, D2, hup⟩ := HX.out
            exact ⟨Q2, T2, rfl, rfl, rfl, D2, by omega⟩
          case round =>
            obtain ⟨q, r, rfl, rfl, hw, D, hr⟩ := hrel
            rw [hw]
            clear hw
            obtain ⟨hyy, hy0, hy1b, hc1, hc0, hU, hr1, hR1, hr2, D1, D2, hup⟩ := HX.out
            have hqy := Nat.mul_le_mul D.qb (Nat.le_sub_one_of_lt hy0)
            have hqb := D.qb
            obtain ⟨P, eP⟩ : ∃ P, P = q * y0 := ⟨_, rfl⟩
            obtain ⟨N0, eN0⟩ : ∃ N0, N0 = 4294967296 * r := ⟨_, rfl⟩
            obtain ⟨N1, eN1⟩ : ∃ N1, N1 = N0 + c0 := ⟨_, rfl⟩
            obtain ⟨r2, er2⟩ : ∃ r2, r2 = r + y1 := ⟨_, rfl⟩
            obtain ⟨p, ep⟩ : ∃ p, p = q - 1 := ⟨_, rfl⟩
            have f1 : IntKind.u64.wrap ((q : Int) * (y0 : Int)) = (P : Int) := by rw [Mul64.mulN, ← eP]; exact Mul64.wrapN _ (by omega)
            have f2 : IntKind.u64.wrap (4294967296 * (r : Int)) = (N0 : Int) := by rw [IntKind.wrap_u64]; omega
            have f3 : IntKind.u64.wrap ((N0 : Int) + (c0 : Int)) = (N1 : Int) := by rw [IntKind.wrap_u64]; omega
            have f5 : IntKind.u64.wrap ((r : Int) + (y1 : Int)) = (r2 : Int) := by rw [IntKind.wrap_u64]; omega
            by_cases hA : 4294967296 ≤ q
            · have hA' : (4294967296 : Int) ≤ (q : Int) := by omega
              obtain ⟨p0, D', pB⟩ := di_step D hR1 hc0 (Or.inl hA)
              rw [← ep, ← er2] at D'
              rw [← ep] at pB
              have f4 : IntKind.u64.wrap ((q : Int) - 1) = (p : Int) := by rw [IntKind.wrap_u64]; omega
              by_cases hE : 4294967296 ≤ r2
              · have hE' : (4294967296 : Int) ≤ (r2 : Int) := by omega
                obtain ⟨hq, -⟩ := di_done D' (di_break hy0 pB hE)
                clear D' pB hE p0
                rw [hyy] at hq
                have k3 := HE.out.2.2 _ hq.symm
                obtain ⟨k4, k5⟩ := K2.out _ hq.symm
                clear hyy hy0 hy1b hc1 hc0 hU hr1 hR1 hr2 D1 D2 hup hqy hqb eP eN0 eN1 er2 ep hA D hr
                clear hq
                go_wp2_with fail
                go_ret2
                exact ⟨rfl, lay_ex w []⟩
              · have hE' : ¬ (4294967296 : Int) ≤ (r2 : Int) := by omega
                have hm : p < q := by omega
                have HK := Lib.hid (And.intro D' (And.intro hm (Nat.lt_of_not_le hE)))
                clear hyy hy0 hy1b hc1 hc0 hU hr1 hR1 hr2 D1 D2 hup hqy hqb eP eN0 eN1 er2 ep hA D hr
                clear D' pB hE hm p0
                go_wp2_with fail
                go_roundw
                case rel => exact ⟨p, r2, rfl, rfl, by first | trivial | rfl, HK.out.1, HK.out.2.2⟩
                case measure =>
                  have := HK.out.2.1
                  simp only [intOf]
                  omega
            · have hA' : ¬ (4294967296 : Int) ≤ (q : Int) := by omega
              by_cases hB : N1 < P
              · have hB' : (N1 : Int) < (P : Int) := Int.ofNat_lt.2 hB
                obtain ⟨p0, D', pB⟩ := di_step D hR1 hc0 (Or.inr (by rw [← eP]; omega))
                clear hB
                rw [← ep, ← er2] at D'
                rw [← ep] at pB
                have f4 : IntKind.u64.wrap ((q : Int) - 1) = (p : Int) := by rw [IntKind.wrap_u64]; omega
                by_cases hE : 4294967296 ≤ r2
                · have hE' : (4294967296 : Int) ≤ (r2 : Int) := by omega
                  obtain ⟨hq, -⟩ := di_done D' (di_break hy0 pB hE)
                  clear D' pB hE p0
                  rw [hyy] at hq
                  have k3 := HE.out.2.2 _ hq.symm
                  obtain ⟨k4, k5⟩ := K2.out _ hq.symm
                  clear hyy hy0 hy1b hc1 hc0 hU hr1 hR1 hr2 D1 D2 hup hqy hqb eP eN0 eN1 er2 ep hA D hr
                  clear hq
                  go_wp2_with fail
                  go_ret2
                  exact ⟨rfl, lay_ex w []⟩
                · have hE' : ¬ (4294967296 : Int) ≤ (r2 : Int) := by omega
                  have hm : p < q := by omega
                  have HK := Lib.hid (And.intro D' (And.intro hm (Nat.lt_of_not_le hE)))
                  clear hyy hy0 hy1b hc1 hc0 hU hr1 hR1 hr2 D1 D2 hup hqy hqb eP eN0 eN1 er2 ep hA D hr
                  clear D' pB hE hm p0
                  go_wp2_with fail
                  go_roundw
                  case rel => exact ⟨p, r2, rfl, rfl, by first | trivial | rfl, HK.out.1, HK.out.2.2⟩
                  case measure =>
                    have := HK.out.2.1
                    simp only [intOf]
                    omega
              · have hB' : ¬ (N1 : Int) < (P : Int) := fun h => hB (Int.ofNat_lt.1 h)
                obtain ⟨hq, -⟩ := di_done D (by rw [← eP]; omega)
                clear hB
                rw [hyy] at hq
                have k3 := HE.out.2.2 _ hq.symm
                obtain ⟨k4, k5⟩ := K2.out _ hq.symm
                clear hyy hy0 hy1b hc1 hc0 hU hr1 hR1 hr2 D1 D2 hup hqy hqb eP eN0 eN1 er2 ep hA D hr
                clear hq
                go_wp2_with fail
                go_ret2
                exact ⟨rfl, lay_ex w []⟩
theorem div64 (hi lo y : Nat) (hhi : hi < y) (hlo : lo < 18446744073709551616) (hy : y < 18446744073709551616) (w : World) :
    Calls Tryz.prog 225 #[.int .u64 (hi : Int), .int .u64 (lo : Int), .int .u64 (y : Int)] w fun e w' =>
      e = .returned (.tuple #[.int .u64 (((hi * 18446744073709551616 + lo) / y : Nat) : Int), .int .u64 (((hi * 18446744073709551616 + lo) % y : Nat) : Int)]) ∧ ∃ d, w' = bw w d :=
  div64' hi lo y _ _ rfl rfl hhi hlo hy w
end Go.Proofs.YthjfadfebhjhbaaGreat
/- The hour angle of Aries at an instant (package sidereal). -/
namespace Go.Proofs.YthjfadfebhjhbaaGreat
open Go.RowKit

def ariV (t : Int) : Int := t * 21659138841977 + 58838400000000
def ariF (t : Int) : Int := 5998067 + ariV t / 86400000000000
def ariR (t : Int) : Int := ariV t % 86400000000000
theorem ari_q {n p q r : Nat} (hn : n ≤ 1000000000000000) (ep : p = n * 21659138841977) (eq : q = p / 86400000000000) (er : r = p % 86400000000000) :
    q ≤ 1000000000000000 ∧ r < 86400000000000 ∧ q * 86400000000000 + r = n * 21659138841977 := by
  refine ⟨?_, by omega, by omega⟩
  have h : p ≤ 1000000000000000 * 86400000000000 := by rw [ep]; exact Nat.mul_le_mul hn (by decide)
  have h2 : p / 86400000000000 ≤ 1000000000000000 * 86400000000000 / 86400000000000 := Nat.div_le_div_right h
  rw [Nat.mul_div_cancel _ (by decide)] at h2
  rw [eq]; exact h2
theorem ari_pos {t : Int} {n q r : Nat} (en : (n : Int) = max t (-t)) (h : q * 86400000000000 + r = n * 21659138841977) (hq : q ≤ 1000000000000000) (hr : r < 86400000000000) (ht : ¬ t < 0) :
    (q : Int) * 86400000000000 + ((r : Int) + 58838400000000) = ariV t ∧ (-86400000000000 < (r : Int) + 58838400000000 ∧ (r : Int) + 58838400000000 < 172800000000000 ∧ -2000000000000000 ≤ (q : Int) ∧ (q : Int) ≤ 2000000000000000) := by
  have e : t = (n : Int) := by omega
  clear en
  refine ⟨?_, by clear h; omega⟩
  unfold ariV
  rw [e]
  clear hq hr ht e
  omega
theorem ari_neg {t : Int} {n q r : Nat} (en : (n : Int) = max t (-t)) (h : q * 86400000000000 + r = n * 21659138841977) (hq : q ≤ 1000000000000000) (hr : r < 86400000000000) (ht : t < 0) :
    -(q : Int) * 86400000000000 + (-(r : Int) + 58838400000000) = ariV t ∧ (-86400000000000 < -(r : Int) + 58838400000000 ∧ -(r : Int) + 58838400000000 < 172800000000000 ∧ -2000000000000000 ≤ -(q : Int) ∧ -(q : Int) ≤ 2000000000000000) := by
  have e : t = -(n : Int) := by omega
  clear en
  refine ⟨?_, by clear h; omega⟩
  unfold ariV
  rw [e]
  clear hq hr ht e
  omega
def ariI (t a b : Int) : Prop := a * 86400000000000 + b = ariV t ∧ (-86400000000000 < b ∧ b < 172800000000000 ∧ -2000000000000000 ≤ a ∧ a ≤ 2000000000000000)
theorem ariV_lo {t : Int} (h0 : -1000000000000000 ≤ t) : -2000000000000000 * 21659138841977 ≤ ariV t := by unfold ariV; omega
theorem ariI_wr {t a b : Int} (h : ariI t a b) : wrap64 (a - 1) = a - 1 ∧ wrap64 (b + 86400000000000) = b + 86400000000000 ∧ wrap64 (5998067 + a) = 5998067 + a := by
  obtain ⟨-, h1, h2, h3, h4⟩ := h
  refine ⟨?_, ?_, ?_⟩ <;> (unfold wrap64; omega)
theorem ariI_step {t a b : Int} (h0 : -1000000000000000 ≤ t) (h : ariI t a b) (hb : b < 0) : ariI t (a - 1) (b + 86400000000000) := by
  obtain ⟨h, h1, h2, h3, h4⟩ := h
  have hV := ariV_lo h0
  refine ⟨?_, by clear h; omega, by clear h; omega, ?_, by clear h; omega⟩
  · generalize ariV t = V at *
    clear h1 h2 h3 h4 hV
    omega
  · generalize ariV t = V at *
    clear h2 h4 h0
    omega
theorem ariI_end {t a b : Int} (h : ariI t a b) (hb : ¬ b < 0) : 5998067 + a + b / 86400000000000 = ariF t ∧ b % 86400000000000 = ariR t ∧ wrap64 (b / 86400000000000) = b / 86400000000000 ∧ wrap64 (5998067 + a + b / 86400000000000) = 5998067 + a + b / 86400000000000 := by
  obtain ⟨h, h1, h2, h3, h4⟩ := h
  refine ⟨?_, ?_, ?_, ?_⟩
  · unfold ariF
    rw [← h, Int.add_comm (a * 86400000000000), Int.add_mul_ediv_right _ _ (by decide)]
    clear h
    omega
  · unfold ariR
    rw [← h, Int.add_comm (a * 86400000000000), Int.add_mul_emod_self_right]
  · clear h; unfold wrap64; omega
  · clear h; unfold wrap64; omega
theorem w64 {n : Int} (h : -9223372036854775808 ≤ n ∧ n ≤ 9223372036854775807) : wrap64 n = n := by unfold wrap64; omega
theorem ari_facts {q r : Nat} (hq : q ≤ 1000000000000000) (hr : r < 86400000000000) :
    wrap64 (q : Int) = (q : Int) ∧ wrap64 (r : Int) = (r : Int) ∧ wrap64 (-(q : Int)) = -(q : Int) ∧ wrap64 (-(r : Int)) = -(r : Int) ∧
    wrap64 ((r : Int) + 58838400000000) = (r : Int) + 58838400000000 ∧ wrap64 (-(r : Int) + 58838400000000) = -(r : Int) + 58838400000000 :=
  ⟨w64 (by omega), w64 (by omega), w64 (by omega), w64 (by omega), w64 (by omega), w64 (by omega)⟩
set_option maxHeartbeats 4000000 in
theorem sid_aries (t : Int) (w : World) (h0 : -1000000000000000 ≤ t) (h1 : t ≤ 1000000000000000) :
    Calls Tryz.prog 178 #[.int .i64 t] w fun e w' => e = .returned (.tuple #[.int .i64 (ariF t), .int .i64 (ariR t)]) ∧ ∃ d, w' = bw w d := by
  refine lay_start ?_
  obtain ⟨n, en⟩ : ∃ n : Nat, (n : Int) = max t (-t) := ⟨t.natAbs, by omega⟩
  have hn : n ≤ 1000000000000000 := by omega
  have c1 := Tryz.bits_Mul64 n 21659138841977 (by omega) (by omega) (lay w [])
  obtain ⟨p, ep⟩ : ∃ p, p = n * 21659138841977 := ⟨_, rfl⟩
  rw [← ep] at c1
  obtain ⟨ph, eph⟩ : ∃ ph, ph = p / 18446744073709551616 := ⟨_, rfl⟩
  obtain ⟨pl, epl⟩ : ∃ pl, pl = p % 18446744073709551616 := ⟨_, rfl⟩
  rw [← eph, ← epl] at c1
  obtain ⟨q, eq⟩ : ∃ q, q = p / 86400000000000 := ⟨_, rfl⟩
  obtain ⟨r, er⟩ : ∃ r, r = p % 86400000000000 := ⟨_, rfl⟩
  have c2 := div64' ph pl 86400000000000 q r (by omega) (by omega) (by omega) (by omega) (by omega) (lay w [])
  rw [show ((21659138841977 : Nat) : Int) = 21659138841977 from by decide] at c1
  rw [show ((86400000000000 : Nat) : Int) = 86400000000000 from by decide] at c2
  have en' : mx t (-t) = (n : Int) := by rw [en]; unfold mx; split <;> omega
  have en2 : IntKind.u64.wrap (n : Int) = (n : Int) := Mul64.wrapN _ (by omega)
  obtain ⟨hqb, hrb, hqr⟩ := ari_q hn ep eq er
  obtain ⟨f1, f2, f3, f4, f5, f6⟩ := ari_facts hqb hrb
  have HN := Lib.hid (And.intro (ari_pos en hqr hqb hrb) (ari_neg en hqr hqb hrb))
  clear en ep eph epl eq er hqb hrb hqr
  go_enter Tryz.func178, Tryz.ntmps178
  go_wp2_with (first | (go_at_call 224; refine c1.mono ?_; rintro e w' ⟨rfl, hw⟩; rw [hw]) | (go_at_call 225; refine c2.mono ?_; rintro e w' ⟨rfl, d, rfl⟩))
  all_goals
    go_loopw [9, 10] (fun v9 v10 wr => ∃ a b : Int, v9 = .int .i64 a ∧ v10 = .int .i64 b ∧ wr = lay w [.inr d] ∧ ariI t a b) (fun _ v10 _ => (200000000000000 - intOf v10).toNat)
    case atStart =>
      refine ⟨_, _, rfl, rfl, rfl, ?_⟩
      first | (rw [f1, f5]; exact HN.out.1 (by assumption)) | (rw [f3, f6]; exact HN.out.2 (by assumption))
    case round =>
      obtain ⟨a, b, rfl, rfl, hw, hI⟩ := hrel
      rw [hw]
      clear hw
      obtain ⟨g1, g2, g3⟩ := ariI_wr hI
      have HI := Lib.hid hI
      by_cases hneg : b < 0
      · have HS := Lib.hid (ariI_step h0 hI hneg)
        clear hI
        go_wp2_with fail
        go_roundw
        case rel =>
          refine ⟨_, _, rfl, rfl, by first | trivial | rfl, ?_⟩
          simp only [g1, g2]
          exact HS.out
        case measure =>
          obtain ⟨-, h1, h2, -, -⟩ := HI.out
          simp only [intOf, g2]
          clear g1 g2 g3 f1 f2 f3 f4 f5 f6
          omega
      · obtain ⟨z1, z2, z3, z4⟩ := ariI_end hI hneg
        have HZ := Lib.hid (And.intro z1 z2)
        clear hI z1 z2
        go_wp2_with fail
        go_ret2
        have e1 : wrap64 (5998067 + a + wrap64 (b.tdiv 86400000000000)) = ariF t := by rw [Int.tdiv_eq_ediv_of_nonneg (by first | exact hneg | exact Int.not_lt.1 hneg), z3, z4]; exact HZ.out.1
        refine ⟨?_, lay_ex w _⟩
        rw [e1, HZ.out.2]
        rfl
end Go.Proofs.YthjfadfebhjhbaaGreat
/- The reference's hour angle of Aries at an instant: the same number. -/
namespace Go.Proofs.YthjfadfebhjhbaaGreat
open Go.RowKit

theorem ref_id {t d m X q e Z zq zr m4 m3 : Int} (ht : t = d * 86400000 + m) (hX : X = 59138841977 * d) (he : X = q * 1000000 + e) (hZ : Z = 59138841977 * m) (hz : Z = zq * 86400000000000 + zr) (hm : m = m4 * 4 + m3) :
    ariV t = (58838400000000 + m3 * 21600000000000 + e * 86400000 + zr) + (21600000 * d + m4 + q + zq) * 86400000000000 := by
  unfold ariV; omega
theorem ref_e {X q : Int} (eq : q = X / 1000000) (h0 : -200000000000000000 ≤ X) (h1 : X ≤ 200000000000000000) :
    wrap64 (X - wrap64 (q * 1000000)) = X - q * 1000000 ∧ 0 ≤ X - q * 1000000 ∧ X - q * 1000000 < 1000000 ∧ -200000000001 ≤ q ∧ q ≤ 200000000001 := by
  have e1 : wrap64 (q * 1000000) = q * 1000000 := w64 (by omega)
  rw [e1]
  exact ⟨w64 (by omega), by omega, by omega, by omega, by omega⟩
theorem ref_P {m3 e zr : Int} (a0 : 0 ≤ m3) (a1 : m3 < 4) (b0 : 0 ≤ e) (b1 : e < 1000000) (c0 : 0 ≤ zr) (c1 : zr < 86400000000000) :
    wrap64 (wrap64 (58838400000000 + m3 * 21600000000000 + wrap64 (e * 86400000)) + zr) = 58838400000000 + m3 * 21600000000000 + e * 86400000 + zr ∧
    0 ≤ 58838400000000 + m3 * 21600000000000 + e * 86400000 + zr ∧ 58838400000000 + m3 * 21600000000000 + e * 86400000 + zr < 400000000000000 := by
  have e1 : wrap64 (e * 86400000) = e * 86400000 := w64 (by omega)
  rw [e1]
  have e2 : wrap64 (58838400000000 + m3 * 21600000000000 + e * 86400000) = 58838400000000 + m3 * 21600000000000 + e * 86400000 := w64 (by omega)
  rw [e2]
  exact ⟨w64 (by omega), by omega, by omega⟩
theorem ref_W {d m4 q zq pq : Int} (a0 : -2000000 ≤ d) (a1 : d ≤ 2000000) (b0 : 0 ≤ m4) (b1 : m4 < 86400000) (c0 : -200000000001 ≤ q) (c1 : q ≤ 200000000001) (d0 : 0 ≤ zq) (d1 : zq < 59138841977) (e0 : 0 ≤ pq) (e1 : pq < 10) :
    wrap64 (wrap64 (wrap64 (wrap64 (wrap64 (wrap64 (21600000 * d) + 5998067) + m4) + q) + zq) + wrap64 pq) = 5998067 + (pq + (21600000 * d + m4 + q + zq)) := by
  have f1 : wrap64 (21600000 * d) = 21600000 * d := w64 (by omega)
  rw [f1]
  have f2 : wrap64 (21600000 * d + 5998067) = 21600000 * d + 5998067 := w64 (by omega)
  rw [f2]
  have f3 : wrap64 (21600000 * d + 5998067 + m4) = 21600000 * d + 5998067 + m4 := w64 (by omega)
  rw [f3]
  have f4 : wrap64 (21600000 * d + 5998067 + m4 + q) = 21600000 * d + 5998067 + m4 + q := w64 (by omega)
  rw [f4]
  have f5 : wrap64 (21600000 * d + 5998067 + m4 + q + zq) = 21600000 * d + 5998067 + m4 + q + zq := w64 (by omega)
  rw [f5]
  have f6 : wrap64 pq = pq := w64 (by omega)
  rw [f6, w64 (by omega)]
  omega
theorem ref_all {t d m X q : Int} (ht : t = d * 86400000 + m) (eX : X = 59138841977 * d) (eq : q = X / 1000000) (hm0 : 0 ≤ m) (hm1 : m < 86400000) (hd0 : -2000000 ≤ d) (hd1 : d ≤ 2000000) (h0 : -200000000000000000 ≤ X) (h1 : X ≤ 200000000000000000) :
    wrap64 (wrap64 (wrap64 (wrap64 (wrap64 (wrap64 (21600000 * d) + 5998067) + m / 4) + q) + 59138841977 * m / 86400000000000) + wrap64 ((wrap64 (wrap64 (58838400000000 + m % 4 * 21600000000000 + wrap64 (wrap64 (X - wrap64 (q * 1000000)) * 86400000)) + 59138841977 * m % 86400000000000)).tdiv 86400000000000)) = ariF t ∧
    (wrap64 (wrap64 (58838400000000 + m % 4 * 21600000000000 + wrap64 (wrap64 (X - wrap64 (q * 1000000)) * 86400000)) + 59138841977 * m % 86400000000000)).tmod 86400000000000 = ariR t := by
  obtain ⟨e1, e2, e3, q0, q1⟩ := ref_e eq h0 h1
  rw [e1]
  have hid := ref_id (e := X - q * 1000000) (q := q) (Z := 59138841977 * m) (zq := 59138841977 * m / 86400000000000) (zr := 59138841977 * m % 86400000000000) (m4 := m / 4) (m3 := m % 4) ht eX (by omega) rfl (by clear ht eX eq e1 e2 e3; omega) (by clear ht eX eq e1 e2 e3; omega)
  have z0 : 0 ≤ 59138841977 * m % 86400000000000 := Int.emod_nonneg _ (by decide)
  have z1 : 59138841977 * m % 86400000000000 < 86400000000000 := Int.emod_lt_of_pos _ (by decide)
  have z2 : 0 ≤ 59138841977 * m / 86400000000000 := Int.ediv_nonneg (by omega) (by decide)
  have z3 : 59138841977 * m / 86400000000000 < 59138841977 := Int.ediv_lt_of_lt_mul (by decide) (by clear ht eX eq e1 e2 e3 hid; omega)
  obtain ⟨p1, p2, p3⟩ := ref_P (m3 := m % 4) (by omega) (by omega) e2 e3 z0 z1
  rw [p1]
  clear p1 e1
  have m0 : 0 ≤ m / 4 := by omega
  have m1 : m / 4 < 86400000 := by omega
  generalize X - q * 1000000 = e at *
  generalize 59138841977 * m / 86400000000000 = zq at *
  generalize 59138841977 * m % 86400000000000 = zr at *
  generalize hP : 58838400000000 + m % 4 * 21600000000000 + e * 86400000 + zr = P at *
  rw [Int.tdiv_eq_ediv_of_nonneg p2, Int.tmod_eq_emod_of_nonneg p2]
  constructor
  · rw [ref_W hd0 hd1 m0 m1 q0 q1 z2 z3 (Int.ediv_nonneg p2 (by decide)) (Int.ediv_lt_of_lt_mul (by decide) (by clear hid hP; omega))]
    unfold ariF
    rw [hid, Int.add_mul_ediv_right _ _ (by decide)]
  · unfold ariR
    rw [hid, Int.add_mul_emod_self_right]
set_option maxHeartbeats 4000000 in
theorem ref12_Aries (t : Int) (w : World) (h0 : -100000000000000 ≤ t) (h1 : t ≤ 100000000000000) :
    Calls Tryz.prog 106 #[.int .i64 t] w fun e w' => e = .returned (.tuple #[.int .i64 (ariF t), .int .i64 (ariR t)]) ∧ w' = w := by
  have c1 := ref05_Floor t 86400000 w (by omega) (by omega) (by omega)
  obtain ⟨d, ed⟩ : ∃ d, d = t / 86400000 := ⟨_, rfl⟩
  rw [← ed] at c1
  obtain ⟨m, em⟩ : ∃ m, m = t - d * 86400000 := ⟨_, rfl⟩
  have hm0 : 0 ≤ m := by omega
  have hm1 : m < 86400000 := by omega
  have hd0 : -2000000 ≤ d := by omega
  have hd1 : d ≤ 2000000 := by omega
  have ht : t = d * 86400000 + m := by omega
  clear ed
  obtain ⟨D, eD⟩ : ∃ D, D = d * 86400000 := ⟨_, rfl⟩
  have F0 : wrap64 (d * 86400000) = D := by rw [eD]; exact w64 (by omega)
  have F1 : wrap64 (t - D) = m := by rw [eD, ← em]; exact w64 (by omega)
  obtain ⟨X, eX⟩ : ∃ X, X = 59138841977 * d := ⟨_, rfl⟩
  have hX0 : -200000000000000000 ≤ X := by omega
  have hX1 : X ≤ 200000000000000000 := by omega
  have F2 : wrap64 (59138841977 * d) = X := by rw [eX]; exact w64 (by omega)
  have c2 := ref05_Floor X 1000000 w (by omega) (by clear ht em eD; omega) (by clear ht em eD; omega)
  obtain ⟨q, eq⟩ : ∃ q, q = X / 1000000 := ⟨_, rfl⟩
  rw [← eq] at c2
  have HN := Lib.hid (And.intro ht (And.intro em (And.intro eD (And.intro eX (And.intro eq (And.intro hd0 (And.intro hd1 (And.intro hX0 hX1))))))))
  clear ht em eD eX eq hX0 hX1 h0 h1 hd0 hd1
  go_enter Tryz.func106, Tryz.ntmps106
  go_wp2_with (first | (go_at_call 58; first | (with_reducible refine c1.mono ?_; rintro e w' ⟨rfl, hw⟩; rw [hw]) | (with_reducible refine c2.mono ?_; rintro e w' ⟨rfl, hw⟩; rw [hw])))
  go_ret2
  obtain ⟨ht, em, eD, eX, eq, hd0, hd1, hX0, hX1⟩ := HN.out
  obtain ⟨r1, r2⟩ := ref_all ht eX eq hm0 hm1 hd0 hd1 hX0 hX1
  refine ⟨?_, rfl⟩
  rw [r1, r2]
  rfl
end Go.Proofs.YthjfadfebhjhbaaGreat
