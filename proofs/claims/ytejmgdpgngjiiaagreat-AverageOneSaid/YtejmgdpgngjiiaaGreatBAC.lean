/- Contracts and plain laws, several texts in one: AvQ; Shelf; PuS; Ris; AvR; Plain -/
import Derived.Test.YtejmgdpgngjiiaaGreatProg
import Derived.WalkKit
import Derived.WalkSpells
import Derived.WalkLawsBesides
import Derived.Lib.Hide
import Derived.BigQuiet
import Derived.Shelf.Small.Bits
import Derived.Shelf.Small.Wraps
import Derived.Shelf.Strconv.Itoa0
import Derived.Shelf.Sort.Plain
import Derived.Shelf.Bits.Mul64
import Derived.Shelf.Slices.Turned
import Derived.Shelf.Slices.Equal
import Derived.Shelf.Slices.In.SortNone
import Derived.Shelf.Slices.Empties2
import Derived.Shelf.SlSortCmp.WholeK
import Derived.Ground.SlsfProg
import Derived.Maps.AppendAt
import Derived.Laws.AppendOwnNone
import Derived.Test.YtejmgdpgngjiiaaGreatBAA
import Derived.Test.YtejmgdpgngjiiaaGreatBAB
/- Sorted lists by a preorder: the k-th elements are alike; quotients; residuals. The plain law. No function of the program. -/
namespace Go.Proofs.YtejmgdpgngjiiaaGreat

/-- Two ascending lists with the same elements: the k-th ones are alike. -/
theorem kth_le {α : Type} (le : α → α → Bool) (tot : ∀ x y, le x y = true ∨ le y x = true) (tr : ∀ x y z, le x y = true → le y z = true → le x z = true) {a b : List α}
    (ha : a.Pairwise fun x y => le x y = true) (hb : b.Pairwise fun x y => le x y = true) (h : a.Perm b) {k : Nat} (hk : k < a.length) (hk2 : k < b.length) : le a[k] b[k] = true := by
  by_cases hn : le a[k] b[k] = true
  · exact hn
  exfalso
  have rf : ∀ x, le x x = true := fun x => (tot x x).elim id id
  have e1 : b.countP (fun z => le z b[k]) = a.countP (fun z => le z b[k]) := (h.countP_eq _).symm
  have h1 : k + 1 ≤ b.countP (fun z => le z b[k]) := by
    have e2 : (b.take (k + 1)).countP (fun z => le z b[k]) = (b.take (k + 1)).length := by
      refine List.countP_eq_length.2 fun z hz => ?_
      obtain ⟨i, hi, rfl⟩ := List.getElem_of_mem hz
      rw [List.length_take] at hi
      rw [List.getElem_take]
      by_cases he : i = k
      · subst he; exact rf _
      · exact List.pairwise_iff_getElem.1 hb i k (by omega) hk2 (by omega)
    have e3 : b.countP (fun z => le z b[k]) = (b.take (k + 1)).countP (fun z => le z b[k]) + (b.drop (k + 1)).countP (fun z => le z b[k]) := by
      rw [← List.countP_append, List.take_append_drop]
    rw [List.length_take] at e2
    omega
  have h2 : a.countP (fun z => le z b[k]) ≤ k := by
    have e2 : (a.drop k).countP (fun z => le z b[k]) = 0 := by
      refine List.countP_eq_zero.2 fun z hz hp => ?_
      obtain ⟨i, hi, rfl⟩ := List.getElem_of_mem hz
      rw [List.length_drop] at hi
      rw [List.getElem_drop] at hp
      refine hn (tr _ a[k + i] _ ?_ hp)
      by_cases he : i = 0
      · subst he; exact rf _
      · exact List.pairwise_iff_getElem.1 ha k (k + i) hk (by omega) (by omega)
    have e3 : a.countP (fun z => le z b[k]) = (a.take k).countP (fun z => le z b[k]) + (a.drop k).countP (fun z => le z b[k]) := by
      rw [← List.countP_append, List.take_append_drop]
    have e4 := List.countP_le_length (p := fun z => le z b[k]) (l := a.take k)
    rw [List.length_take] at e4
    omega
  omega
/-- A difference of readings, and the positive difference of their times. -/
structure RisV where
  h : Int
  t : Int
def risLe (a b : RisV) : Bool := decide (a.h * b.t ≤ b.h * a.t)
theorem risLe_tot (a b : RisV) : risLe a b = true ∨ risLe b a = true := by
  unfold risLe; simp only [decide_eq_true_eq]; omega
theorem risLe_tr {a b c : RisV} (ha : 0 < a.t) (hb : 0 < b.t) (hc : 0 < c.t) (h1 : risLe a b = true) (h2 : risLe b c = true) : risLe a c = true := by
  unfold risLe at *
  simp only [decide_eq_true_eq] at *
  have k1 := Int.mul_le_mul_of_nonneg_right h1 (Int.le_of_lt hc)
  have k2 := Int.mul_le_mul_of_nonneg_right h2 (Int.le_of_lt ha)
  have e1 : b.h * a.t * c.t = b.h * c.t * a.t := by rw [Int.mul_right_comm]
  have k3 : a.h * c.t * b.t ≤ c.h * a.t * b.t := by
    have e2 : a.h * b.t * c.t = a.h * c.t * b.t := by rw [Int.mul_right_comm]
    have e3 : c.h * b.t * a.t = c.h * a.t * b.t := by rw [Int.mul_right_comm]
    rw [← e2, ← e3]
    exact Int.le_trans (Int.le_trans k1 (Int.le_of_eq e1)) k2
  exact Int.le_of_mul_le_mul_right k3 hb
/-- The quotients at one place of two sorted lists are one. -/
theorem kth_quot {a b : List RisV} (hp : ∀ x ∈ a, 0 < x.t) (ha : a.Pairwise fun x y => risLe x y = true) (hb : b.Pairwise fun x y => risLe x y = true) (h : a.Perm b) {k : Nat} (hk : k < a.length) (hk2 : k < b.length) : a[k].h * b[k].t = b[k].h * a[k].t := by
  have hq : ∀ x ∈ b, 0 < x.t := fun x hx => hp x (h.symm.mem_iff.1 hx)
  have go : ∀ {a b : List RisV}, (∀ x ∈ a, 0 < x.t) → a.Pairwise (fun x y => risLe x y = true) → b.Pairwise (fun x y => risLe x y = true) → a.Perm b → ∀ (hk : k < a.length) (hk2 : k < b.length), risLe a[k] b[k] = true := by
    intro a b hp ha hb h hk hk2
    have hq : ∀ x ∈ b, 0 < x.t := fun x hx => hp x (h.symm.mem_iff.1 hx)
    have := kth_le (α := { x : RisV // 0 < x.t }) (fun x y => risLe x.1 y.1) (fun x y => risLe_tot _ _) (fun x y z h1 h2 => risLe_tr x.2 y.2 z.2 h1 h2)
      (a := a.pmap (fun x hx => ⟨x, hx⟩) hp) (b := b.pmap (fun x hx => ⟨x, hx⟩) hq) ?_ ?_ ?_ (k := k) (by simpa using hk) (by simpa using hk2)
    · simpa using this
    · exact (List.pairwise_pmap hp).2 (ha.imp fun h _ _ => h)
    · exact (List.pairwise_pmap hq).2 (hb.imp fun h _ _ => h)
    · exact h.pmap _
  have h1 := go hp ha hb h hk hk2
  have h2 := go hq hb ha h.symm hk2 hk
  unfold risLe at h1 h2
  simp only [decide_eq_true_eq] at h1 h2
  omega
/-- The residual of a reading. -/
def resI (t h n d : Int) : Int := h + (1000 * d - 2 * n * t) / (2000 * d)
theorem res_line (v s x : Int) : resI (1000 * x) (v + s * x) s 1 = v := by
  unfold resI
  have e : 2 * s * (1000 * x) = 2000 * (s * x) := by rw [Int.mul_assoc, Int.mul_left_comm s, ← Int.mul_assoc]; omega
  rw [e]; omega
end Go.Proofs.YtejmgdpgngjiiaaGreat
/- DERIVED: THE SHELF's CONTRACTS AT THIS DUMP, IN PLAIN WORDS (tools/lay-plain.mjs out of 'TryzShelf.lean', which tools/lay-shelf.mjs wrote): THE SAME DECLARATIONS UNDER THE SAME NAMES: 'import', 'namespace', 'open', 'def', 'theorem' AND NOTHING ELSE: no command of the shelf's: FOR A HAND-IN. Each laying: the table of numbers ('.._ren') and one theorem, a field a fact of the dump's own or the kernel's comparison; each contract: ONE APPLICATION. -/
namespace Go.Proofs
open Go.Shelf
def Tryz.lays128_ren : Go.Shelf.Ren := ⟨fun | 128 => 156 | n => n, fun | 51 => 41 | 3 => 3 | 4 => 4 | 46 => 121 | 5 => 5 | 9 => 9 | n => n, fun | n => n⟩
theorem Tryz.lays128 : Go.Proofs.Lays.n128 Tryz.prog Tryz.lays128_ren := {
  mixed := by kernel_rfl
  f128 := Tryz.func156.trans (congrArg some (by kernel_rfl))
  t3 := Tryz.underlying3
  a3 := Tryz.isAgg3
  z3 := Tryz.sizeOf3
  v3 := Tryz.zeroValue3
  t4 := Tryz.underlying4
  a4 := Tryz.isAgg4
  z4 := Tryz.sizeOf4
  v4 := Tryz.zeroValue4
  t5 := Tryz.underlying5
  a5 := Tryz.isAgg5
  z5 := Tryz.sizeOf5
  v5 := Tryz.zeroValue5
  t9 := Tryz.underlying9
  a9 := Tryz.isAgg9
  z9 := Tryz.sizeOf9
  v9 := Tryz.zeroValue9
  t46 := Tryz.underlying121
  a46 := Tryz.isAgg121
  z46 := Tryz.sizeOf121
  v46 := Tryz.zeroValue121
  t51 := Tryz.underlying41
  a51 := Tryz.isAgg41
  z51 := Tryz.sizeOf41
  v51 := Tryz.zeroValue41 }
/-- bits.Len32: "Len32 returns the minimum number of bits required to represent x; the result is 0 for x == 0.": IT RETURNS 'Lib.bitLen x'; the world is as it was. ('h0', 'h1': x is a uint32.) (LAID: no walk: one application.) -/
theorem Tryz.bits_Len32 (x : Int) (w : World) (h0 : 0 ≤ x) (h1 : x ≤ 4294967295) :
    Calls Tryz.prog 156 #[.int .u32 x] w fun e w' => e = .returned (.int .i64 (Lib.bitLen x.toNat)) ∧ w' = w := Any.bits_Len32 Tryz.lays128 x w h0 h1
def Tryz.lays125_ren : Go.Shelf.Ren := ⟨fun | 125 => 111 | 128 => 156 | 129 => 157 | n => n, fun | 46 => 121 | 3 => 3 | 51 => 41 | 53 => 133 | 4 => 4 | 5 => 5 | 9 => 9 | n => n, fun | n => n⟩
theorem Tryz.lays125 : Go.Proofs.Lays.n125 Tryz.prog Tryz.lays125_ren := {
  mixed := by kernel_rfl
  f125 := Tryz.func111.trans (congrArg some (by kernel_rfl))
  f128 := Tryz.func156.trans (congrArg some (by kernel_rfl))
  f129 := Tryz.func157.trans (congrArg some (by kernel_rfl))
  t3 := Tryz.underlying3
  a3 := Tryz.isAgg3
  z3 := Tryz.sizeOf3
  v3 := Tryz.zeroValue3
  t4 := Tryz.underlying4
  a4 := Tryz.isAgg4
  z4 := Tryz.sizeOf4
  v4 := Tryz.zeroValue4
  t5 := Tryz.underlying5
  a5 := Tryz.isAgg5
  z5 := Tryz.sizeOf5
  v5 := Tryz.zeroValue5
  t9 := Tryz.underlying9
  a9 := Tryz.isAgg9
  z9 := Tryz.sizeOf9
  v9 := Tryz.zeroValue9
  t46 := Tryz.underlying121
  a46 := Tryz.isAgg121
  z46 := Tryz.sizeOf121
  v46 := Tryz.zeroValue121
  t51 := Tryz.underlying41
  a51 := Tryz.isAgg41
  z51 := Tryz.sizeOf41
  v51 := Tryz.zeroValue41
  t53 := Tryz.underlying133
  a53 := Tryz.isAgg133
  z53 := Tryz.sizeOf133
  v53 := Tryz.zeroValue133 }
/-- bits.Len: "Len returns the minimum number of bits required to represent x; the result is 0 for x == 0.": IT RETURNS 'Lib.bitLen x'; the world is as it was. (A uint has 64 bits in the model.) ITS CALLEE bits.Len64 IS MET BY ITS OWN CONTRACT OFF THE SHELF (lay that first). (LAID: no walk: one application.) -/
theorem Tryz.bits_Len (x : Int) (w : World) (h0 : 0 ≤ x) (h1 : x ≤ 18446744073709551615) :
    Calls Tryz.prog 111 #[.int .u64 x] w fun e w' => e = .returned (.int .i64 (Lib.bitLen x.toNat)) ∧ w' = w := Any.bits_Len Tryz.lays125 x w h0 h1
def Tryz.lays134_ren : Go.Shelf.Ren := ⟨fun | 134 => 212 | 129 => 157 | n => n, fun | 53 => 133 | 3 => 3 | 4 => 4 | 46 => 121 | 5 => 5 | 9 => 9 | n => n, fun | n => n⟩
theorem Tryz.lays134 : Go.Proofs.Lays.n134 Tryz.prog Tryz.lays134_ren := {
  mixed := by kernel_rfl
  f129 := Tryz.func157.trans (congrArg some (by kernel_rfl))
  f134 := Tryz.func212.trans (congrArg some (by kernel_rfl))
  t3 := Tryz.underlying3
  a3 := Tryz.isAgg3
  z3 := Tryz.sizeOf3
  v3 := Tryz.zeroValue3
  t4 := Tryz.underlying4
  a4 := Tryz.isAgg4
  z4 := Tryz.sizeOf4
  v4 := Tryz.zeroValue4
  t5 := Tryz.underlying5
  a5 := Tryz.isAgg5
  z5 := Tryz.sizeOf5
  v5 := Tryz.zeroValue5
  t9 := Tryz.underlying9
  a9 := Tryz.isAgg9
  z9 := Tryz.sizeOf9
  v9 := Tryz.zeroValue9
  t46 := Tryz.underlying121
  a46 := Tryz.isAgg121
  z46 := Tryz.sizeOf121
  v46 := Tryz.zeroValue121
  t53 := Tryz.underlying133
  a53 := Tryz.isAgg133
  z53 := Tryz.sizeOf133
  v53 := Tryz.zeroValue133 }
/-- bits.LeadingZeros64: "LeadingZeros64 returns the number of leading zero bits in x; the result is 64 for x == 0.": IT RETURNS '64 - Lib.bitLen x'; the world is as it was. ITS CALLEE bits.Len64 IS MET BY ITS OWN CONTRACT OFF THE SHELF (lay that first): entered in place it sends the kernel out of memory. (LAID: no walk: one application.) -/
theorem Tryz.bits_LeadingZeros64 (x : Int) (w : World) (h0 : 0 ≤ x) (h1 : x ≤ 18446744073709551615) :
    Calls Tryz.prog 212 #[.int .u64 x] w fun e w' => e = .returned (.int .i64 (64 - (Lib.bitLen x.toNat : Int))) ∧ w' = w := Any.bits_LeadingZeros64 Tryz.lays134 x w h0 h1
def Tryz.lays215_ren : Go.Shelf.Ren := ⟨fun | 215 => 208 | n => n, fun | 3 => 3 | 4 => 4 | n => n, fun | n => n⟩
theorem Tryz.lays215 : Go.Proofs.Lays.n215 Tryz.prog Tryz.lays215_ren := {
  mixed := by kernel_rfl
  f215 := Tryz.func208.trans (congrArg some (by kernel_rfl))
  t3 := Tryz.underlying3
  a3 := Tryz.isAgg3
  z3 := Tryz.sizeOf3
  v3 := Tryz.zeroValue3
  t4 := Tryz.underlying4
  a4 := Tryz.isAgg4
  z4 := Tryz.sizeOf4
  v4 := Tryz.zeroValue4 }
open Go.RowKit in
/-- cmp.isNaN at int: 'x != x': false. (LAID: no walk: one application.) -/
theorem Tryz.cmp_isNaN_int (x : Int) (w : World) :
    Calls Tryz.prog 208 #[.int .i64 x] w fun e w' => e = .returned (.bool false) ∧ w' = w := Any.cmp_isNaN_int Tryz.lays215 x w
def Tryz.lays129_ren : Go.Shelf.Ren := ⟨fun | 129 => 157 | n => n, fun | 53 => 133 | 3 => 3 | 4 => 4 | 46 => 121 | 5 => 5 | 9 => 9 | n => n, fun | n => n⟩
theorem Tryz.lays129 : Go.Proofs.Lays.n129 Tryz.prog Tryz.lays129_ren := {
  mixed := by kernel_rfl
  f129 := Tryz.func157.trans (congrArg some (by kernel_rfl))
  t3 := Tryz.underlying3
  a3 := Tryz.isAgg3
  z3 := Tryz.sizeOf3
  v3 := Tryz.zeroValue3
  t4 := Tryz.underlying4
  a4 := Tryz.isAgg4
  z4 := Tryz.sizeOf4
  v4 := Tryz.zeroValue4
  t5 := Tryz.underlying5
  a5 := Tryz.isAgg5
  z5 := Tryz.sizeOf5
  v5 := Tryz.zeroValue5
  t9 := Tryz.underlying9
  a9 := Tryz.isAgg9
  z9 := Tryz.sizeOf9
  v9 := Tryz.zeroValue9
  t46 := Tryz.underlying121
  a46 := Tryz.isAgg121
  z46 := Tryz.sizeOf121
  v46 := Tryz.zeroValue121
  t53 := Tryz.underlying133
  a53 := Tryz.isAgg133
  z53 := Tryz.sizeOf133
  v53 := Tryz.zeroValue133 }
/-- bits.Len64: "Len64 returns the minimum number of bits required to represent x; the result is 0 for x == 0.": IT RETURNS 'Lib.bitLen x'; the world is as it was. ('h0', 'h1': x is a uint64.) (LAID: no walk: one application.) -/
theorem Tryz.bits_Len64 (x : Int) (w : World) (h0 : 0 ≤ x) (h1 : x ≤ 18446744073709551615) :
    Calls Tryz.prog 157 #[.int .u64 x] w fun e w' => e = .returned (.int .i64 (Lib.bitLen x.toNat)) ∧ w' = w := Any.bits_Len64 Tryz.lays129 x w h0 h1
def Tryz.lays189_ren : Go.Shelf.Ren := ⟨fun | 189 => 138 | 125 => 111 | 257 => 168 | 128 => 156 | 129 => 157 | 294 => 182 | 295 => 183 | 296 => 184 | 297 => 185 | 298 => 186 | 299 => 187 | 216 => 188 | 300 => 189 | 301 => 190 | 328 => 205 | 329 => 176 | 330 => 177 | 331 => 206 | 332 => 207 | 215 => 208 | 343 => 215 | n => n, fun | 28 => 22 | 3 => 3 | 46 => 121 | 0 => 0 | 51 => 41 | 53 => 133 | 4 => 4 | 183 => 167 | 182 => 166 | 131 => 171 | 5 => 5 | 9 => 9 | 218 => 187 | 222 => 191 | 228 => 209 | 229 => 137 | n => n, fun | n => n⟩
theorem Tryz.lays189 : Go.Proofs.Lays.n189 Tryz.prog Tryz.lays189_ren := {
  mixed := by kernel_rfl
  f125 := Tryz.func111.trans (congrArg some (by kernel_rfl))
  f128 := Tryz.func156.trans (congrArg some (by kernel_rfl))
  f129 := Tryz.func157.trans (congrArg some (by kernel_rfl))
  f189 := Tryz.func138.trans (congrArg some (by kernel_rfl))
  f215 := Tryz.func208.trans (congrArg some (by kernel_rfl))
  f216 := Tryz.func188.trans (congrArg some (by kernel_rfl))
  f257 := Tryz.func168.trans (congrArg some (by kernel_rfl))
  f294 := Tryz.func182.trans (congrArg some (by kernel_rfl))
  f295 := Tryz.func183.trans (congrArg some (by kernel_rfl))
  f296 := Tryz.func184.trans (congrArg some (by kernel_rfl))
  f297 := Tryz.func185.trans (congrArg some (by kernel_rfl))
  f298 := Tryz.func186.trans (congrArg some (by kernel_rfl))
  f299 := Tryz.func187.trans (congrArg some (by kernel_rfl))
  f300 := Tryz.func189.trans (congrArg some (by kernel_rfl))
  f301 := Tryz.func190.trans (congrArg some (by kernel_rfl))
  f328 := Tryz.func205.trans (congrArg some (by kernel_rfl))
  f329 := Tryz.func176.trans (congrArg some (by kernel_rfl))
  f330 := Tryz.func177.trans (congrArg some (by kernel_rfl))
  f331 := Tryz.func206.trans (congrArg some (by kernel_rfl))
  f332 := Tryz.func207.trans (congrArg some (by kernel_rfl))
  f343 := Tryz.func215.trans (congrArg some (by kernel_rfl))
  t0 := Tryz.underlying0
  a0 := Tryz.isAgg0
  z0 := Tryz.sizeOf0
  v0 := Tryz.zeroValue0
  t3 := Tryz.underlying3
  a3 := Tryz.isAgg3
  z3 := Tryz.sizeOf3
  v3 := Tryz.zeroValue3
  t4 := Tryz.underlying4
  a4 := Tryz.isAgg4
  z4 := Tryz.sizeOf4
  v4 := Tryz.zeroValue4
  t5 := Tryz.underlying5
  a5 := Tryz.isAgg5
  z5 := Tryz.sizeOf5
  v5 := Tryz.zeroValue5
  t9 := Tryz.underlying9
  a9 := Tryz.isAgg9
  z9 := Tryz.sizeOf9
  v9 := Tryz.zeroValue9
  t28 := Tryz.underlying22
  a28 := Tryz.isAgg22
  z28 := Tryz.sizeOf22
  v28 := Tryz.zeroValue22
  t46 := Tryz.underlying121
  a46 := Tryz.isAgg121
  z46 := Tryz.sizeOf121
  v46 := Tryz.zeroValue121
  t51 := Tryz.underlying41
  a51 := Tryz.isAgg41
  z51 := Tryz.sizeOf41
  v51 := Tryz.zeroValue41
  t53 := Tryz.underlying133
  a53 := Tryz.isAgg133
  z53 := Tryz.sizeOf133
  v53 := Tryz.zeroValue133
  t131 := Tryz.underlying171
  a131 := Tryz.isAgg171
  z131 := Tryz.sizeOf171
  v131 := Tryz.zeroValue171
  t182 := Tryz.underlying166
  a182 := Tryz.isAgg166
  z182 := Tryz.sizeOf166
  v182 := Tryz.zeroValue166
  t183 := Tryz.underlying167
  a183 := Tryz.isAgg167
  z183 := Tryz.sizeOf167
  v183 := Tryz.zeroValue167
  t218 := Tryz.underlying187
  a218 := Tryz.isAgg187
  z218 := Tryz.sizeOf187
  v218 := Tryz.zeroValue187
  t222 := Tryz.underlying191
  a222 := Tryz.isAgg191
  z222 := Tryz.sizeOf191
  v222 := Tryz.zeroValue191
  t228 := Tryz.underlying209
  a228 := Tryz.isAgg209
  z228 := Tryz.sizeOf209
  v228 := Tryz.zeroValue209
  t229 := Tryz.underlying137
  a229 := Tryz.isAgg137
  z229 := Tryz.sizeOf137
  v229 := Tryz.zeroValue137 }
open Go.Sort Go.RowKit in
theorem Tryz.slices_Sort_int (blk off cap : Nat) (zs : List Int) (w : World) (hH : Holds (Value.int .i64) w blk off zs.toArray) (hblk : blk < w.heap.size) (hsz : zs.length < 4611686018427387904) :
    Calls Tryz.prog 138 #[.slice (some ⟨blk, off, none⟩) zs.length cap] w fun e w' =>
      e = .returned (.tuple #[]) ∧ ∃ n os, w' = grow (putRow (Value.int .i64) (Sort.ahead w n) blk off (zs.mergeSort fun x y => decide (x ≤ y)).toArray) os := Any.slices_Sort_int Tryz.lays189 blk off cap zs w hH hblk hsz
def Tryz.lays264_ren : Go.Shelf.Ren := ⟨fun | 264 => 136 | n => n, fun | 53 => 133 | 46 => 121 | n => n, fun | n => n⟩
theorem Tryz.lays264 : Go.Proofs.Lays.n264 Tryz.prog Tryz.lays264_ren := {
  mixed := by kernel_rfl
  f264 := Tryz.func136.trans (congrArg some (by kernel_rfl))
  t46 := Tryz.underlying121
  a46 := Tryz.isAgg121
  z46 := Tryz.sizeOf121
  v46 := Tryz.zeroValue121
  t53 := Tryz.underlying133
  a53 := Tryz.isAgg133
  z53 := Tryz.sizeOf133
  v53 := Tryz.zeroValue133 }
open Go.RowKit Go.Lib in
theorem Tryz.bits_Mul64 (x y : Nat) (hx : x < 18446744073709551616) (hy : y < 18446744073709551616) (w : World) :
    Calls Tryz.prog 136 #[.int .u64 x, .int .u64 y] w fun e w' => e = .returned (.tuple #[.int .u64 ((x * y / 18446744073709551616 : Nat) : Int), .int .u64 ((x * y % 18446744073709551616 : Nat) : Int)]) ∧ w' = w := Any.bits_Mul64 Tryz.lays264 x y hx hy w
def Tryz.lays212_ren : Go.Shelf.Ren := ⟨fun | 212 => 84 | 263 => 135 | 264 => 136 | n => n, fun | 46 => 121 | 51 => 41 | 146 => 151 | 53 => 133 | 148 => 153 | n => n, fun | n => n⟩
theorem Tryz.lays212 : Go.Proofs.Lays.n212 Tryz.prog Tryz.lays212_ren := {
  mixed := by kernel_rfl
  f212 := Tryz.func84.trans (congrArg some (by kernel_rfl))
  f263 := Tryz.func135.trans (congrArg some (by kernel_rfl))
  f264 := Tryz.func136.trans (congrArg some (by kernel_rfl))
  t46 := Tryz.underlying121
  a46 := Tryz.isAgg121
  z46 := Tryz.sizeOf121
  v46 := Tryz.zeroValue121
  t51 := Tryz.underlying41
  a51 := Tryz.isAgg41
  z51 := Tryz.sizeOf41
  v51 := Tryz.zeroValue41
  t53 := Tryz.underlying133
  a53 := Tryz.isAgg133
  z53 := Tryz.sizeOf133
  v53 := Tryz.zeroValue133
  t146 := Tryz.underlying151
  a146 := Tryz.isAgg151
  z146 := Tryz.sizeOf151
  v146 := Tryz.zeroValue151
  t148 := Tryz.underlying153
  a148 := Tryz.isAgg153
  z148 := Tryz.sizeOf153
  v148 := Tryz.zeroValue153 }
open Go.RowKit Go.Lib in
/-- math/bits.Mul: "Mul returns the full-width product of x and y": on a machine of 64 bits: Mul64's. (LAID: no walk: one application.) -/
theorem Tryz.bits_Mul (x y : Nat) (hx : x < 18446744073709551616) (hy : y < 18446744073709551616) (w : World) :
    Calls Tryz.prog 84 #[.int .u64 x, .int .u64 y] w fun e w' => e = .returned (.tuple #[.int .u64 ((x * y / 18446744073709551616 : Nat) : Int), .int .u64 ((x * y % 18446744073709551616 : Nat) : Int)]) ∧ w' = w := Any.bits_Mul Tryz.lays212 x y hx hy w
def Tryz.lays108_ren : Go.Shelf.Ren := ⟨fun | 108 => 56 | n => n, fun | 28 => 22 | 3 => 3 | 0 => 0 | 4 => 4 | n => n, fun | n => n⟩
theorem Tryz.lays108 : Go.Proofs.Lays.n108 Tryz.prog Tryz.lays108_ren := {
  mixed := by kernel_rfl
  f108 := Tryz.func56.trans (congrArg some (by kernel_rfl))
  t0 := Tryz.underlying0
  a0 := Tryz.isAgg0
  z0 := Tryz.sizeOf0
  v0 := Tryz.zeroValue0
  t3 := Tryz.underlying3
  a3 := Tryz.isAgg3
  z3 := Tryz.sizeOf3
  v3 := Tryz.zeroValue3
  t4 := Tryz.underlying4
  a4 := Tryz.isAgg4
  z4 := Tryz.sizeOf4
  v4 := Tryz.zeroValue4
  t28 := Tryz.underlying22
  a28 := Tryz.isAgg22
  z28 := Tryz.sizeOf22
  v28 := Tryz.zeroValue22 }
open Go.Lib in
/-- slices.Index at []int: "Index returns the index of the first occurrence of v in s, or -1 if not present.": IT RETURNS 'Lib.idxOf (the elements) v'; the world is as it was. 'zs': what the cells behind the slice's address hold (its spare capacity too, if you have it); 'zs.take n': its elements. (LAID: no walk: one application.) -/
theorem Tryz.slices_Index_int (b off n c : Nat) (zs : List Int) (x : Int) (w : World) (hz : n ≤ zs.length) (hbig : n ≤ 9223372036854775807) (hc : ∀ j, j < zs.length → w.cell? ⟨b, off + j, none⟩ = some (.int .i64 (zs.getD j 0))) :
    Calls Tryz.prog 56 #[.slice (some ⟨b, off, none⟩) n c, .int .i64 x] w fun e w' => e = .returned (.int .i64 (Lib.idxOf (zs.take n) x)) ∧ w' = w := Any.slices_Index_int Tryz.lays108 b off n c zs x w hz hbig hc
open Go.Lib in
/-- The same at a slice of length 0, a nil one too: no cell is known, none is asked for. (LAID: no walk: one application.) -/
theorem Tryz.slices_Index_int_empty (a : Option Addr) (c : Nat) (x : Int) (w : World) :
    Calls Tryz.prog 56 #[.slice a 0 c, .int .i64 x] w fun e w' => e = .returned (.int .i64 (Lib.idxOf [] x)) ∧ w' = w := Any.slices_Index_int_empty Tryz.lays108 a c x w
def Tryz.lays107_ren : Go.Shelf.Ren := ⟨fun | 107 => 27 | 108 => 56 | n => n, fun | 28 => 22 | 3 => 3 | 4 => 4 | 0 => 0 | n => n, fun | n => n⟩
theorem Tryz.lays107 : Go.Proofs.Lays.n107 Tryz.prog Tryz.lays107_ren := {
  mixed := by kernel_rfl
  f107 := Tryz.func27.trans (congrArg some (by kernel_rfl))
  f108 := Tryz.func56.trans (congrArg some (by kernel_rfl))
  t0 := Tryz.underlying0
  a0 := Tryz.isAgg0
  z0 := Tryz.sizeOf0
  v0 := Tryz.zeroValue0
  t3 := Tryz.underlying3
  a3 := Tryz.isAgg3
  z3 := Tryz.sizeOf3
  v3 := Tryz.zeroValue3
  t4 := Tryz.underlying4
  a4 := Tryz.isAgg4
  z4 := Tryz.sizeOf4
  v4 := Tryz.zeroValue4
  t28 := Tryz.underlying22
  a28 := Tryz.isAgg22
  z28 := Tryz.sizeOf22
  v28 := Tryz.zeroValue22 }
open Go.Lib in
/-- slices.Contains at []int: "Contains reports whether v is present in s.": IT RETURNS 'elements.contains v'; the world is as it was. ITS CALLEE slices.Index IS MET BY ITS OWN CONTRACT OFF THE SHELF (lay that first): no loop is walked here. (LAID: no walk: one application.) -/
theorem Tryz.slices_Contains_int (b off n c : Nat) (zs : List Int) (x : Int) (w : World) (hz : n ≤ zs.length) (hbig : n ≤ 9223372036854775807) (hc : ∀ j, j < zs.length → w.cell? ⟨b, off + j, none⟩ = some (.int .i64 (zs.getD j 0))) :
    Calls Tryz.prog 27 #[.slice (some ⟨b, off, none⟩) n c, .int .i64 x] w fun e w' => e = .returned (.bool ((zs.take n).contains x)) ∧ w' = w := Any.slices_Contains_int Tryz.lays107 b off n c zs x w hz hbig hc
open Go.Lib in
/-- The same at a slice of length 0, a nil one too. (LAID: no walk: one application.) -/
theorem Tryz.slices_Contains_int_empty (a : Option Addr) (c : Nat) (x : Int) (w : World) :
    Calls Tryz.prog 27 #[.slice a 0 c, .int .i64 x] w fun e w' => e = .returned (.bool false) ∧ w' = w := Any.slices_Contains_int_empty Tryz.lays107 a c x w
def Tryz.lays111_ren : Go.Shelf.Ren := ⟨fun | 111 => 16 | n => n, fun | 28 => 22 | 3 => 3 | 4 => 4 | 0 => 0 | n => n, fun | n => n⟩
theorem Tryz.lays111 : Go.Proofs.Lays.n111 Tryz.prog Tryz.lays111_ren := {
  mixed := by kernel_rfl
  f111 := Tryz.func16.trans (congrArg some (by kernel_rfl))
  t0 := Tryz.underlying0
  a0 := Tryz.isAgg0
  z0 := Tryz.sizeOf0
  v0 := Tryz.zeroValue0
  t3 := Tryz.underlying3
  a3 := Tryz.isAgg3
  z3 := Tryz.sizeOf3
  v3 := Tryz.zeroValue3
  t4 := Tryz.underlying4
  a4 := Tryz.isAgg4
  z4 := Tryz.sizeOf4
  v4 := Tryz.zeroValue4
  t28 := Tryz.underlying22
  a28 := Tryz.isAgg22
  z28 := Tryz.sizeOf22
  v28 := Tryz.zeroValue22 }
open Go.RowKit Go.Lib in
/-- slices.Equal at []int: "Equal reports whether two slices are equal: the same length and all elements equal. If the lengths are different, Equal returns false. Otherwise, the elements are compared in increasing index order, and the comparison stops at the first unequal pair. Empty and nil slices are considered equal.": IT RETURNS WHETHER THE TWO LISTS OF ELEMENTS ARE ONE; the world is as it was but for the count of draws (the test 's1[i] != s2[i]' has two reads, whose order the model draws, once a round). 'xs', 'ys': what the cells behind the two addresses hold (the spare capacity too, if you have it); 'xs.take n', 'ys.take m': the elements. THE TWO SLICES MAY OVERLAP. (LAID: no walk: one application.) -/
theorem Tryz.slices_Equal_int (b1 o1 n c b2 o2 m d : Nat) (xs ys : List Int) (w : World) (hx : n ≤ xs.length) (hy : m ≤ ys.length) (hbig : n ≤ 9223372036854775807) (hbig2 : m ≤ 9223372036854775807) (hc1 : ∀ j, j < xs.length → w.cell? ⟨b1, o1 + j, none⟩ = some (.int .i64 (xs.getD j 0))) (hc2 : ∀ j, j < ys.length → w.cell? ⟨b2, o2 + j, none⟩ = some (.int .i64 (ys.getD j 0))) :
    Calls Tryz.prog 16 #[.slice (some ⟨b1, o1, none⟩) n c, .slice (some ⟨b2, o2, none⟩) m d] w fun e w' => e = .returned (.bool (xs.take n == ys.take m)) ∧ ∃ q, w' = w.drewN q := Any.slices_Equal_int Tryz.lays111 b1 o1 n c b2 o2 m d xs ys w hx hy hbig hbig2 hc1 hc2
open Go.RowKit Go.Lib in
/-- The same where the first is of length 0 (a nil one too): no cell is asked for. (LAID: no walk: one application.) -/
theorem Tryz.slices_Equal_int_empty (a1 a2 : Option Addr) (c m d : Nat) (w : World) (hbig2 : m ≤ 9223372036854775807) :
    Calls Tryz.prog 16 #[.slice a1 0 c, .slice a2 m d] w fun e w' => e = .returned (.bool (decide (m = 0))) ∧ w' = w := Any.slices_Equal_int_empty Tryz.lays111 a1 a2 c m d w hbig2
open Go.RowKit Go.Sort in
/-- .. and plain. (LAID: no walk: one application.) -/
theorem Tryz.slices_Sort_int_none (p : Option Addr) (cap : Nat) (w : World) :
    Calls Tryz.prog 138 #[.slice p 0 cap] w fun e w' => e = .returned (.tuple #[]) ∧ w' = w := Any.slices_Sort_int_none Tryz.lays189 p cap w
open Go.RowKit Go.Lib in
theorem Tryz.slices_Equal_int_lens (a1 a2 : Option Addr) (n c m d : Nat) (w : World) (hnm : n ≠ m) :
    Calls Tryz.prog 16 #[.slice a1 n c, .slice a2 m d] w fun e w' => e = .returned (.bool false) ∧ w' = w := Any.slices_Equal_int_lens Tryz.lays111 a1 a2 n c m d w hnm
def Tryz.sortRise_ren : Go.Shelf.Ren := ⟨fun | 6 => 58 | 15 => 111 | 14 => 110 | 28 => 156 | 29 => 157 | 20 => 148 | 21 => 149 | 22 => 150 | 23 => 151 | 24 => 152 | 25 => 153 | 26 => 154 | 27 => 155 | 46 => 175 | 47 => 176 | 48 => 177 | 49 => 178 | 50 => 179 | 57 => 204 | n => n, fun | 22 => 99 | 24 => 101 | 25 => 103 | 3 => 3 | 39 => 121 | 0 => 0 | 53 => 41 | 55 => 133 | 4 => 4 | 46 => 167 | 45 => 166 | 50 => 171 | 5 => 5 | 9 => 9 | 66 => 187 | 70 => 191 | 76 => 209 | 77 => 137 | n => n, fun | n => n⟩
theorem Tryz.sortRise : Go.Proofs.SlLaysF0.n6 Tryz.prog Tryz.sortRise_ren := {
  mixed := by kernel_rfl
  f6 := ⟨Tryz.f58.name, by decide, Tryz.func58.trans (congrArg some (by kernel_rfl))⟩
  f14 := ⟨Tryz.f110.name, by decide, Tryz.func110.trans (congrArg some (by kernel_rfl))⟩
  f15 := Tryz.func111.trans (congrArg some (by kernel_rfl))
  f20 := ⟨Tryz.f148.name, by decide, Tryz.func148.trans (congrArg some (by kernel_rfl))⟩
  f21 := ⟨Tryz.f149.name, by decide, Tryz.func149.trans (congrArg some (by kernel_rfl))⟩
  f22 := ⟨Tryz.f150.name, by decide, Tryz.func150.trans (congrArg some (by kernel_rfl))⟩
  f23 := ⟨Tryz.f151.name, by decide, Tryz.func151.trans (congrArg some (by kernel_rfl))⟩
  f24 := ⟨Tryz.f152.name, by decide, Tryz.func152.trans (congrArg some (by kernel_rfl))⟩
  f25 := ⟨Tryz.f153.name, by decide, Tryz.func153.trans (congrArg some (by kernel_rfl))⟩
  f26 := ⟨Tryz.f154.name, by decide, Tryz.func154.trans (congrArg some (by kernel_rfl))⟩
  f27 := ⟨Tryz.f155.name, by decide, Tryz.func155.trans (congrArg some (by kernel_rfl))⟩
  f28 := Tryz.func156.trans (congrArg some (by kernel_rfl))
  f29 := Tryz.func157.trans (congrArg some (by kernel_rfl))
  f46 := ⟨Tryz.f175.name, by decide, Tryz.func175.trans (congrArg some (by kernel_rfl))⟩
  f47 := Tryz.func176.trans (congrArg some (by kernel_rfl))
  f48 := Tryz.func177.trans (congrArg some (by kernel_rfl))
  f49 := ⟨Tryz.f178.name, by decide, Tryz.func178.trans (congrArg some (by kernel_rfl))⟩
  f50 := ⟨Tryz.f179.name, by decide, Tryz.func179.trans (congrArg some (by kernel_rfl))⟩
  f57 := ⟨Tryz.f204.name, by decide, Tryz.func204.trans (congrArg some (by kernel_rfl))⟩
  t0 := Tryz.underlying0
  a0 := Tryz.isAgg0
  z0 := Tryz.sizeOf0
  v0 := Tryz.zeroValue0
  t3 := Tryz.underlying3
  a3 := Tryz.isAgg3
  z3 := Tryz.sizeOf3
  v3 := Tryz.zeroValue3
  t4 := Tryz.underlying4
  a4 := Tryz.isAgg4
  z4 := Tryz.sizeOf4
  v4 := Tryz.zeroValue4
  t5 := Tryz.underlying5
  a5 := Tryz.isAgg5
  z5 := Tryz.sizeOf5
  v5 := Tryz.zeroValue5
  t9 := Tryz.underlying9
  a9 := Tryz.isAgg9
  z9 := Tryz.sizeOf9
  v9 := Tryz.zeroValue9
  t22 := Tryz.underlying99
  a22 := Tryz.isAgg99
  z22 := Tryz.sizeOf99
  v22 := Tryz.zeroValue99
  t25 := Tryz.underlying103
  a25 := Tryz.isAgg103
  z25 := Tryz.sizeOf103
  v25 := Tryz.zeroValue103
  t39 := Tryz.underlying121
  a39 := Tryz.isAgg121
  z39 := Tryz.sizeOf121
  v39 := Tryz.zeroValue121
  t45 := Tryz.underlying166
  a45 := Tryz.isAgg166
  z45 := Tryz.sizeOf166
  v45 := Tryz.zeroValue166
  t46 := Tryz.underlying167
  a46 := Tryz.isAgg167
  z46 := Tryz.sizeOf167
  v46 := Tryz.zeroValue167
  t50 := Tryz.underlying171
  a50 := Tryz.isAgg171
  z50 := Tryz.sizeOf171
  v50 := Tryz.zeroValue171
  t53 := Tryz.underlying41
  a53 := Tryz.isAgg41
  z53 := Tryz.sizeOf41
  v53 := Tryz.zeroValue41
  t55 := Tryz.underlying133
  a55 := Tryz.isAgg133
  z55 := Tryz.sizeOf133
  v55 := Tryz.zeroValue133
  t66 := Tryz.underlying187
  a66 := Tryz.isAgg187
  z66 := Tryz.sizeOf187
  v66 := Tryz.zeroValue187
  t70 := Tryz.underlying191
  a70 := Tryz.isAgg191
  z70 := Tryz.sizeOf191
  v70 := Tryz.zeroValue191
  t76 := Tryz.underlying209
  a76 := Tryz.isAgg209
  z76 := Tryz.sizeOf209
  v76 := Tryz.zeroValue209
  t77 := Tryz.underlying137
  a77 := Tryz.isAgg137
  z77 := Tryz.sizeOf137
  v77 := Tryz.zeroValue137 }
end Go.Proofs
/- An append of a whole slice to a row of the call's own; slices cut (as in XPut, for a seat without audit). -/
namespace Go.Proofs.YtejmgdpgngjiiaaGreat
open Go.RowKit

theorem wf_append {l m : List Int} (hl : ∀ i, i < l.length → (Lit.int .i64 (nth l i)).wf = true) (hm : ∀ i, i < m.length → (Lit.int .i64 (nth m i)).wf = true) : ∀ i, i < (l ++ m).length → (Lit.int .i64 (nth (l ++ m) i)).wf = true := by
  intro i hi
  by_cases h : i < l.length
  · have : nth (l ++ m) i = nth l i := by unfold nth; simp [List.getD, List.getElem?_append, h]
    rw [this]; exact hl i h
  · have h2 : i - l.length < m.length := by simp at hi; omega
    have : nth (l ++ m) i = nth m (i - l.length) := by unfold nth; simp [List.getD, List.getElem?_append, h]
    rw [this]; exact hm _ h2
theorem map_get {l : List Int} {j : Nat} {u : Value} (h : (l.map (Value.int .i64))[j]? = some u) : j < l.length ∧ u = .int .i64 (nth l j) := by
  rw [List.getElem?_map] at h
  have hj : j < l.length := by
    rcases Nat.lt_or_ge j l.length with h1 | h1
    · exact h1
    · rw [List.getElem?_eq_none h1] at h; cases h
  rw [nth_getElem? hj] at h
  exact ⟨hj, by simpa using h.symm⟩
theorem push_sl {ops : Array Oper} {rest : List Oper} {o : Oper} {a : Act} {Q : Exit → Act → World → Prop} (hgd : o.guard = none) (s x : Operand)
    (ho : o.op = .call { callee := .builtin .append, args := #[s, x], argTypes := #[22, 22] })
    (W0 : World) (wb : World) (v1 : Value) (l1 : List Int) (A : Option Addr) (n c : Nat) (l2 : List Int) (hw : Below W0.heap.size W0 wb) (hown : Ow wb W0.heap.size v1 l1)
    (hsrc : Sl wb (.slice A n c) l2) (hA : A = none → c = 0) (hs : a.eval s = v1) (hx : a.eval x = .slice A n c) (hn : l1.length + l2.length ≤ 1000000000)
    (h : ∀ v' d, Ow (Go.Proofs.YtejmgdpgngjiiaaGreat.bw W0 d) W0.heap.size v' (l1 ++ l2) → wpList Tryz.prog ops Q rest (a.put o.dst v') (Go.Proofs.YtejmgdpgngjiiaaGreat.bw W0 d)) :
    wpList Tryz.prog ops Q (o :: rest) a wb := by
  obtain ⟨i, hi, hz0, hz1, hz2⟩ := info_parts info_intS
  have hM : maxLen = 9223372036854775807 := by decide
  obtain ⟨a', cap', he, hcc, hwf, hcell⟩ := hsrc
  simp only [Value.slice.injEq] at he
  obtain ⟨rfl, rfl, rfl⟩ := he
  cases A with
  | none =>
    obtain rfl := hA rfl
    have hl2 : l2 = [] := by
      rcases List.eq_nil_or_concat l2 with h | ⟨_, _, h⟩
      · exact h
      · have : l2 ≠ [] := by rw [h]; simp
        obtain ⟨_, _, h, _⟩ := hcell this
        cases h
    subst hl2
    obtain ⟨d, rfl⟩ := bw_of hw
    refine wpList_append_own_none hgd s x 22 ho W0.heap.size 3 i 1 Tryz.underlying22 hi v1 l1.length (l1.map (Value.int .i64)) hs hown.1 hx ?_
    exact h v1 d (by rw [List.append_nil]; exact hown)
  | some ad =>
    refine wpList_append_own wb hgd s x 22 ho W0.heap.size 3 i (.int .i64 0) 1 8 Tryz.underlying22 hi hz0 hz1 hz2 rfl (by decide) v1 l1.length (l1.map (Value.int .i64)) hs hown.1 ad l2.length c (l2.map (Value.int .i64)) hx (by simp) ?_ ?_ (by omega) (by omega) hw.size ?_
    · intro j u hu
      obtain ⟨hj, rfl⟩ := map_get hu
      obtain ⟨b, o', e, _, hr⟩ := hcell (by intro e; rw [e] at hj; exact absurd hj (Nat.not_lt_zero _))
      cases e
      rw [s_add_none1 rfl]
      exact hr j hj
    · intro u hu
      obtain ⟨y, _, rfl⟩ := List.mem_map.1 hu
      rfl
    · intro v' w' hown' hg _
      obtain ⟨d, hd⟩ := bw_of (w := W0) (w' := w') (hw.grown hg hw.size (fun k hk => (hown.1.lt k hk).1))
      subst hd
      exact h v' d ⟨by rw [List.length_append, List.map_append]; exact hown', wf_append hown.2 hwf⟩
/-- An empty literal. -/
theorem ow_empty {w : World} {L : List (Obj ⊕ Ext)} : Ow (lay w (.inl (.cells #[] 3 (0, 0)) :: L)) (lay w L).heap.size (.slice (some ⟨posn w (shp L), 0, none⟩) 0 0) [] := by
  rw [← lay_size w L]
  exact ⟨World.ownsRow_lit (lay w L) #[] 0 (Nat.le_refl _) (by decide) rfl, fun i hi => absurd hi (Nat.not_lt_zero i)⟩
/-- A slice cut out of one. -/
theorem nth_cut {l : List Int} {f n i : Nat} (h : i < n) : nth ((l.drop f).take n) i = nth l (f + i) := by
  unfold nth; simp [List.getD, h]
theorem sl_cut {w : World} {b o n cap f k c : Nat} {l : List Int} (h : Sl w (.slice (some ⟨b, o, none⟩) n cap) l) (hf : f + k ≤ l.length) (hc : k ≤ c ∧ c ≤ 9223372036854775807) : Sl w (.slice (some ⟨b, o + f, none⟩) k c) ((l.drop f).take k) := by
  have hl : ((l.drop f).take k).length = k := by rw [List.length_take, List.length_drop]; omega
  obtain ⟨a', cap', he, hcc, hwf, hcell⟩ := h
  simp only [Value.slice.injEq] at he
  obtain ⟨he, rfl, rfl⟩ := he
  refine ⟨_, c, by rw [hl], by rw [hl]; exact hc, fun i hi => ?_, fun hne => ⟨b, o + f, rfl, ?_⟩⟩
  · rw [hl] at hi
    rw [nth_cut hi]; exact hwf _ (by omega)
  · have hk : 0 < k := by rw [← hl]; exact List.length_pos_iff.2 hne
    obtain ⟨b', o', e, hb, hr⟩ := hcell (by intro e; rw [e] at hf; simp at hf; omega)
    rw [← he] at e
    cases e
    refine ⟨hb, fun i hi => ?_⟩
    rw [hl] at hi
    rw [nth_cut hi, Nat.add_assoc]
    exact hr _ (by omega)
theorem sl_none {w : World} {a : Option Addr} {c : Nat} (hc : c ≤ 9223372036854775807) : Sl w (.slice a 0 c) [] := ⟨a, c, rfl, ⟨Nat.zero_le _, hc⟩, fun i hi => absurd hi (Nat.not_lt_zero i), fun h => absurd rfl h⟩
/-- The call returns a row of its own that holds these ints, in a world that extends the one before. -/
def RwO (w : World) (l : List Int) (e : Ending) (w' : World) : Prop := ∃ v d, e = .returned v ∧ w' = bw w d ∧ Ow (bw w d) w.heap.size v l
end Go.Proofs.YtejmgdpgngjiiaaGreat
/- average.Line: its rows of quotients; the library's sort of them. -/
namespace Go.Proofs.YtejmgdpgngjiiaaGreat
open Go.RowKit Go.Sort Go.Shelf

/-- A quotient within bounds. -/
def RisB : Type := { x : RisV // (-21600000 ≤ x.h ∧ x.h ≤ 21600000) ∧ 1 ≤ x.t ∧ x.t ≤ 172800000 }
instance : Inhabited RisB := ⟨⟨⟨0, 1⟩, by decide⟩⟩
def riR : RecT RisB := { E := 101, S := 99, k := 2, bytes := 16, enc := fun x => [.int .i64 x.1.h, .int .i64 x.1.t], wf := fun _ => True }
theorem info_ri : (Tryz.prog.info? 101).map (fun i => (i.zero.map (fun z => z.cells.size), i.size, i.bytes)) = some (some 2, 2, 16) := by kernel_rfl
theorem riOk : RecOk riR where
  len _ := rfl
  one x u hu := by
    rcases List.mem_cons.1 hu with rfl | hu
    · rfl
    · rw [List.mem_singleton.1 hu]; rfl
  pos := by decide
  und := Tryz.underlying99
  info := by
    have h := info_ri
    cases hi : Tryz.prog.info? 101 with
    | none => rw [hi] at h; cases h
    | some i =>
      rw [hi] at h
      simp only [Option.map_some, Option.some.injEq, Prod.mk.injEq] at h
      obtain ⟨h1, h2, h3⟩ := h
      cases hz : i.zero with
      | none => rw [hz] at h1; cases h1
      | some z =>
        rw [hz] at h1
        simp only [Option.map_some, Option.some.injEq] at h1
        exact ⟨i, z, hi, hz, h2, h3, h1⟩
  small := by decide
def cmpR (x y : RisB) : Int := x.1.h * y.1.t - y.1.h * x.1.t
theorem lt_cmpR (x y : RisB) : ltOf cmpR x y = !risLe y.1 x.1 := by
  unfold ltOf cmpR risLe
  rw [Bool.eq_iff_iff]; simp; omega
theorem swo_cmpR : SWO (ltOf cmpR) where
  irrefl x := by rw [lt_cmpR]; unfold risLe; simp
  trans x y z h1 h2 := by
    rw [lt_cmpR] at *
    simp only [Bool.not_eq_true'] at *
    have hx := x.2; have hy := y.2; have hz := z.2
    cases h : risLe z.1 x.1
    · rfl
    · have h3 := (risLe_tot z.1 y.1).resolve_left (by rw [h2]; decide)
      have := risLe_tr (by omega) (by omega) (by omega) h3 h
      rw [h1] at this; cases this
  ntrans x y z h1 h2 := by
    rw [lt_cmpR] at *
    simp only [Bool.not_eq_false'] at *
    have hx := x.2; have hy := y.2; have hz := z.2
    exact risLe_tr (by omega) (by omega) (by omega) h2 h1
theorem cmp_bd (x y : RisB) : -3732480000000000 ≤ x.1.h * y.1.t ∧ x.1.h * y.1.t ≤ 3732480000000000 := by
  have hx := x.2; have hy := y.2
  have h1 : (x.1.h * y.1.t).natAbs ≤ 21600000 * 172800000 := by rw [Int.natAbs_mul]; exact Nat.mul_le_mul (by omega) (by omega)
  omega
set_option maxHeartbeats 400000 in
theorem av_Line1 (x y : RisB) (w : World) :
    Calls Tryz.prog 59 #[(.agg #[.int .i64 (x.1.h), .int .i64 (x.1.t)]), (.agg #[.int .i64 (y.1.h), .int .i64 (y.1.t)])] w fun e w' => e = .returned (.int .i64 (cmpR x y)) ∧ w' = lay w [.inl (.cells #[.int .i64 y.1.h, .int .i64 y.1.t] 101 (0, 0)), .inl (.cells #[.int .i64 x.1.h, .int .i64 x.1.t] 101 (0, 0))] := by
  have h1 := cmp_bd x y
  have h2 := cmp_bd y x
  have k1 : IntKind.i64.wrap (x.1.h * y.1.t) = x.1.h * y.1.t := IntWalk.i64_in _ (by omega)
  have k2 : IntKind.i64.wrap (y.1.h * x.1.t) = y.1.h * x.1.t := IntWalk.i64_in _ (by omega)
  have k3 : IntKind.i64.wrap (x.1.h * y.1.t - y.1.h * x.1.t) = cmpR x y := IntWalk.i64_in _ (by omega)
  have k4 : IntKind.i64.wrap (cmpR x y) = cmpR x y := by rw [← k3]; exact IntWalk.i64_in _ (by rw [k3]; unfold cmpR; omega)
  clear h1 h2
  generalize x.1.h = xh at *
  generalize x.1.t = xt at *
  generalize y.1.h = yh at *
  generalize y.1.t = yt at *
  refine lay_start ?_
  go_enter Tryz.func59, Tryz.ntmps59
  go_wp2_with fail
  go_ret
  exact ⟨rfl, rfl⟩
theorem lay2_growR (W : World) (o1 o2 : Obj) : Go.Proofs.YtejmgdpgngjiiaaGreat.lay W [.inl o1, .inl o2] = grow (W.drewN 0) (#[o2] ++ #[o1]) := by
  show (W.alloc o2).alloc o1 = _
  rw [alloc_eq_grow, alloc_eq_grow, grow_grow]; rfl
theorem cmpLays_ri (blk off size : Nat) (w : World) : CmpLays Tryz.prog 59 #[] riR.enc 2 cmpR blk off size w :=
  fun _ _ _ _ x y => (av_Line1 x y _).mono fun _ _ ⟨he, hw⟩ => ⟨he, 0, _, hw.trans (lay2_growR _ _ _)⟩
theorem isAgg_ri : ∀ w, (isAgg 101).run Tryz.prog w = .ok true w := fun _ => by kernel_rfl
theorem sizeOf_ri : ∀ w, (Go.sizeOf 101).run Tryz.prog w = .ok 2 w := fun _ => by kernel_rfl
theorem av_sort (W0 : World) (v : Value) (l : List RisB) (w : World) (hw : Below W0.heap.size W0 w) (h : OwG riR w W0.heap.size v l) (hl : 0 < l.length) (hb : l.length ≤ 1000000000) :
    Calls Tryz.prog 58 #[v, .func (.func 59) #[] #[]] w fun e w' => e = .returned (.tuple #[]) ∧ ∃ d l', w' = bw W0 d ∧ l'.Perm l ∧ l'.Pairwise (fun a b => risLe a.1 b.1 = true) ∧ OwG riR (bw W0 d) W0.heap.size v l' := by
  obtain ⟨g, cap, rfl, h1, h2, h3⟩ := h.form1 hl
  have eg : ∀ args w, (callFunc 59 args).run Tryz.prog w = .ok (.enter 59 args) w := enters_of Tryz.func59 (by kernel_rfl) rfl
  have hcon := AnyQ.slices_SortFunc Tryz.sortRise 2 isAgg_ri sizeOf_ri riR.enc riOk.len riOk.one cmpR swo_cmpR 59 #[] g 0 cap l.toArray w eg (cmpLays_ri g 0 l.toArray.size w) (holdsK_row riOk h) h2 (by simp; omega)
  have hs : l.toArray.size = l.length := by simp
  rw [hs] at hcon
  refine Calls.mono hcon fun e w' ⟨he, d', n, os, hp, ho, hw'⟩ => ⟨he, ?_⟩
  have hsz : d'.size = l.length := by rw [← hs]; exact hp.1
  have hperm : d'.toList.Perm l := by
    have := hp.2.2
    rw [Array.extract_eq_self_of_le (by rw [hsz]; exact Nat.le_refl _), Array.extract_eq_self_of_le (by rw [hs]; exact Nat.le_refl _)] at this
    exact this
  obtain ⟨e', he', hown⟩ := owG_sorted riOk hw h hsz (n := n) (os := os) (fun x hx => h.2 x (hperm.mem_iff.1 hx))
  refine ⟨e', d'.toList, hw'.trans he', hperm, ?_, hown⟩
  rw [List.pairwise_iff_getElem]
  intro i j hi hj hij
  have hj' : j < l.length := by rw [← hsz]; simpa using hj
  have h5 := ho i j (Nat.zero_le _) hij hj'
  rw [lt_cmpR, getElem!_pos d' j (by omega), getElem!_pos d' i (by omega)] at h5
  simpa using h5
end Go.Proofs.YtejmgdpgngjiiaaGreat
/- Fractions in lowest terms: the plain law. No function of the program. -/
namespace Go.Proofs.YtejmgdpgngjiiaaGreat

theorem red_eq {a b c d : Nat} (hb : 0 < b) (hd : 0 < d) (h : a * d = c * b) : a / Nat.gcd a b = c / Nat.gcd c d ∧ b / Nat.gcd a b = d / Nat.gcd c d := by
  have e1 : a / Nat.gcd a b = (a * d) / Nat.gcd (a * d) (b * d) := by rw [Nat.gcd_mul_right, Nat.mul_div_mul_right _ _ hd]
  have e2 : b / Nat.gcd a b = (b * d) / Nat.gcd (a * d) (b * d) := by rw [Nat.gcd_mul_right, Nat.mul_div_mul_right _ _ hd]
  have e3 : c / Nat.gcd c d = (c * b) / Nat.gcd (c * b) (d * b) := by rw [Nat.gcd_mul_right, Nat.mul_div_mul_right _ _ hb]
  have e4 : d / Nat.gcd c d = (d * b) / Nat.gcd (c * b) (d * b) := by rw [Nat.gcd_mul_right, Nat.mul_div_mul_right _ _ hb]
  rw [e1, e2, e3, e4, h, Nat.mul_comm d b]
  exact ⟨rfl, rfl⟩
/-- Numerator and denominator in lowest terms, not yet bounded. -/
def mkN (a b : Int) : Int := let n : Int := ((a.natAbs / Nat.gcd a.natAbs b.natAbs : Nat) : Int); if decide (a < 0) != decide (b < 0) then -n else n
def mkD (a b : Int) : Int := ((b.natAbs / Nat.gcd a.natAbs b.natAbs : Nat) : Int)
def mkBig (a b : Int) : Bool := decide (1073741824 < (a.natAbs / Nat.gcd a.natAbs b.natAbs : Nat)) || decide (1073741824 < (b.natAbs / Nat.gcd a.natAbs b.natAbs : Nat))
/-- One value, one fraction. -/
theorem mk_same {a b c d : Int} (hb : 0 < b) (hd : 0 < d) (h : a * d = c * b) : mkN a b = mkN c d ∧ mkD a b = mkD c d ∧ mkBig a b = mkBig c d := by
  have hn : a.natAbs * d.natAbs = c.natAbs * b.natAbs := by rw [← Int.natAbs_mul, ← Int.natAbs_mul, h]
  obtain ⟨e1, e2⟩ := red_eq (a := a.natAbs) (b := b.natAbs) (c := c.natAbs) (d := d.natAbs) (by omega) (by omega) hn
  have hs : a < 0 ↔ c < 0 := by
    constructor
    · intro ha
      have h1 := Int.mul_neg_of_neg_of_pos ha hd
      rw [h] at h1
      exact Int.lt_of_not_ge fun hc => by have := Int.mul_nonneg hc (Int.le_of_lt hb); omega
    · intro hc
      have h1 := Int.mul_neg_of_neg_of_pos hc hb
      rw [← h] at h1
      exact Int.lt_of_not_ge fun ha => by have := Int.mul_nonneg ha (Int.le_of_lt hd); omega
  have hs2 : decide (a < 0) = decide (c < 0) := decide_eq_decide.2 hs
  have hb2 : decide (b < 0) = false := decide_eq_false (by omega)
  have hd2 : decide (d < 0) = false := decide_eq_false (by omega)
  unfold mkN mkD mkBig
  rw [e1, e2, hs2, hb2, hd2]
  exact ⟨rfl, rfl, rfl⟩
/-- A fraction with denominator 1. -/
theorem mk_whole {s d : Int} (hd : 0 < d) : mkN (s * d) d = s ∧ mkD (s * d) d = 1 := by
  obtain ⟨h1, h2, -⟩ := mk_same (a := s * d) (b := d) (c := s) (d := 1) hd (by omega) (by rw [Int.mul_one])
  rw [h1, h2]
  unfold mkN mkD
  have e : Nat.gcd s.natAbs (1 : Int).natAbs = 1 := by show Nat.gcd s.natAbs 1 = 1; exact Nat.gcd_one_right _
  rw [e]
  have e1 : decide ((1 : Int) < 0) = false := by decide
  rw [e1, Nat.div_one]
  refine ⟨?_, rfl⟩
  by_cases hs : s < 0
  · rw [decide_eq_true hs]
    show -((s.natAbs : Nat) : Int) = s
    omega
  · rw [decide_eq_false hs]
    show ((s.natAbs : Nat) : Int) = s
    omega
/-- The signed quotients are the numerator and the denominator. -/
theorem mk_div {a b : Int} : (a.natAbs / Nat.gcd a.natAbs b.natAbs) * Nat.gcd a.natAbs b.natAbs = a.natAbs ∧ (b.natAbs / Nat.gcd a.natAbs b.natAbs) * Nat.gcd a.natAbs b.natAbs = b.natAbs :=
  ⟨Nat.div_mul_cancel (Nat.gcd_dvd_left _ _), Nat.div_mul_cancel (Nat.gcd_dvd_right _ _)⟩
end Go.Proofs.YtejmgdpgngjiiaaGreat
/- Plain facts on integers: quotients rounded down and up, as Go reckons them. No program in sight. -/
namespace Go.Proofs.YtejmgdpgngjiiaaGreat
theorem floor_neg {a b : Int} (hb : 1 ≤ b) (h : a.tmod b < 0) : a.tdiv b - 1 = a / b := by
  have h1 := Int.tmod_add_mul_tdiv a b
  have h2 : -b < a.tmod b := by have := Int.lt_tmod_of_pos a (by omega : 0 < b); omega
  symm
  rw [Int.ediv_eq_iff_of_pos (by omega), Int.sub_mul, Int.mul_comm (a.tdiv b) b]
  omega
theorem floor_pos {a b : Int} (hb : 1 ≤ b) (h : 0 ≤ a.tmod b) : a.tdiv b = a / b := by
  have h1 := Int.tmod_add_mul_tdiv a b
  have h2 : a.tmod b < b := Int.tmod_lt_of_pos a (by omega)
  symm
  rw [Int.ediv_eq_iff_of_pos (by omega), Int.mul_comm (a.tdiv b) b]
  omega
theorem tdiv_bd {a b : Int} (hb : 1 ≤ b) (L : Int) (h0 : 0 ≤ L) (h1 : -L ≤ a) (h2 : a ≤ L) : -L ≤ a.tdiv b ∧ a.tdiv b ≤ L := by
  have h3 := Int.tmod_add_mul_tdiv a b
  rcases Int.lt_or_le a 0 with h | h
  · have e : a.tdiv b = -((-a) / b) := by rw [← Int.tdiv_eq_ediv_of_nonneg (by omega), Int.neg_tdiv, Int.neg_neg]
    have := Int.ediv_nonneg (show 0 ≤ -a by omega) (show 0 ≤ b by omega)
    have := Int.ediv_le_self b (show 0 ≤ -a by omega)
    omega
  · rw [Int.tdiv_eq_ediv_of_nonneg h]
    have := Int.ediv_nonneg h (show 0 ≤ b by omega)
    have := Int.ediv_le_self b h
    omega
/-- The quotient rounded up. -/
def cdiv (a b : Int) : Int := -((-a) / b)
theorem cdiv_pos {a b : Int} (hb : 1 ≤ b) (h : 0 < a.tmod b) : a.tdiv b + 1 = cdiv a b := by
  unfold cdiv
  have := floor_neg (a := -a) hb (by rw [Int.neg_tmod]; omega)
  rw [Int.neg_tdiv] at this; omega
theorem cdiv_neg {a b : Int} (hb : 1 ≤ b) (h : a.tmod b ≤ 0) : a.tdiv b = cdiv a b := by
  unfold cdiv
  have := floor_pos (a := -a) hb (by rw [Int.neg_tmod]; omega)
  rw [Int.neg_tdiv] at this; omega
theorem ediv_bd {a b : Int} (hb : 1 ≤ b) (L : Int) (h0 : 0 ≤ L) (h1 : -L ≤ a) (h2 : a ≤ L) : -L ≤ a / b ∧ a / b ≤ L := by
  constructor
  · rw [Int.le_ediv_iff_mul_le (by omega)]
    have : L * 1 ≤ L * b := Int.mul_le_mul_of_nonneg_left hb h0
    rw [Int.neg_mul]; omega
  · rcases Int.lt_or_le a 0 with h | h
    · have := Int.ediv_neg_of_neg_of_pos h (show 0 < b by omega); omega
    · have := Int.ediv_le_self b h; omega
theorem cdiv_bd {a b : Int} (hb : 1 ≤ b) (L : Int) (h0 : 0 ≤ L) (h1 : -L ≤ a) (h2 : a ≤ L) : -L ≤ cdiv a b ∧ cdiv a b ≤ L := by
  unfold cdiv
  have := ediv_bd (a := -a) hb L h0 (by omega) (by omega)
  omega
theorem tmod_wrap (n : Int) (c : Int) (hc : 1 ≤ c) : (n.tmod c < 0 → n.tmod c + c = n % c) ∧ (0 ≤ n.tmod c → n.tmod c = n % c) := by
  have h1 := Int.tmod_add_mul_tdiv n c
  have h2 := Int.emod_add_mul_ediv n c
  constructor
  · intro h
    have := floor_neg hc h
    rw [← this, Int.mul_sub] at h2; omega
  · intro h
    have := floor_pos hc h
    rw [← this] at h2; omega
theorem tmod_bd (n c : Int) (hc : 1 ≤ c) : -c < n.tmod c ∧ n.tmod c < c := by
  have := Int.lt_tmod_of_pos n (show 0 < c by omega)
  have := Int.tmod_lt_of_pos n (show 0 < c by omega)
  omega
end Go.Proofs.YtejmgdpgngjiiaaGreat
