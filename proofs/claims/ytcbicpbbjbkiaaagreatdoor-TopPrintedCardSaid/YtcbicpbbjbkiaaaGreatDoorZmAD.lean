/- Contracts and plain laws, several texts in one: Nm0; Nm1; Div; Div2; Nm2; TgP; TgI; Nm3; Qn1; Qn2; NmP; Nm4; Qn3; Qn4; Qn0; TgE; TgR; TgQ; TgK -/
import Derived.Test.YtcbicpbbjbkiaaaGreatDoorProg
import Derived.WalkKit
import Derived.WalkSpells
import Derived.WalkLawsBesides
import Derived.Lib.Hide
import Derived.BigQuiet
import Derived.Shelf.Spec.BitsCarry
import Derived.Lib.ItoaNum
import GoSem.Core.Next
import Derived.Laws.Cover3
import Derived.ChangeKeysEq
import Derived.Test.YtcbicpbbjbkiaaaGreatDoorZmAA
import Derived.Test.YtcbicpbbjbkiaaaGreatDoorZmAB
import Derived.Test.YtcbicpbbjbkiaaaGreatDoorZmAC
namespace Go.Proofs.YtcbicpbbjbkiaaaGreatDoor
open Go.RowKit

def nt (l : List Nat) (i : Nat) : Nat := l.getD i 0
def valB (B : Nat) : List Nat → Nat
 | [] => 0
 | x :: l => x * B ^ l.length + valB B l
theorem nt_lt {l : List Nat} {i : Nat} (h : i < l.length) : l[i]? = some (nt l i) := by
 unfold nt
 simp [List.getD, h]
theorem nt_set {l : List Nat} {i j x : Nat} (h : i < l.length) : nt (l.set i x) j = if j = i then x else nt l j := by
 unfold nt
 by_cases hj : j = i
 ·subst hj; simp [List.getD, h]
 ·rw [if_neg hj]
  simp [List.getD, Ne.symm hj]
theorem valB_drop {B : Nat} : ∀ {l : List Nat} {i : Nat}, i < l.length → valB B (l.drop i) = nt l i * B ^ (l.length - i - 1) + valB B (l.drop (i + 1))
 | [], i, h => absurd h (Nat.not_lt_zero _)
 | x :: l, 0, _ => by
  simp only [List.drop_zero, List.drop_succ_cons, valB, nt, List.getD_cons_zero, List.length_cons]
  congr 2
 | x :: l, i + 1, h => by
  have := valB_drop (B := B) (l := l) (i := i) (by simpa using h)
  simp only [List.drop_succ_cons, List.length_cons, nt, List.getD_cons_succ] at this ⊢
  rw [this]
  congr 3
  omega
theorem valB_lt {B : Nat} (hB : 0 < B) : ∀ {l : List Nat}, (∀ x ∈ l, x < B) → valB B l < B ^ l.length
 | [], _ => by simp [valB]
 | x :: l, h => by
  have ih := valB_lt hB (l := l) (fun y hy => h y (List.mem_cons_of_mem _ hy))
  have hx := h x (List.mem_cons_self ..)
  have h2 : (x + 1) * B ^ l.length ≤ B * B ^ l.length := Nat.mul_le_mul_right _ hx
  rw [Nat.succ_mul] at h2
  simp only [valB, List.length_cons, Nat.pow_succ, Nat.mul_comm (B ^ l.length)]
  omega
theorem drop_set {l : List Nat} {i x : Nat} : (l.set i x).drop (i + 1) = l.drop (i + 1) := by
 rw [List.drop_set_of_lt (by omega)]
structure Wd (n : Nat) (l : List Nat) : Prop where
 len : l.length = n
 lt : ∀ i, nt l i < 18446744073709551616
theorem Wd.mem {n : Nat} {l : List Nat} (h : Wd n l) : ∀ x ∈ l, x < 18446744073709551616 := fun x hx => by
 obtain ⟨i, hi, rfl⟩ := List.getElem_of_mem hx
 have := h.lt i
 unfold nt at this
 simpa [List.getD, hi] using this
theorem Wd.set {n : Nat} {l : List Nat} (h : Wd n l) {i x : Nat} (hi : i < n) (hx : x < 18446744073709551616) : Wd n (l.set i x) := by
 refine ⟨by rw [List.length_set]; exact h.len, fun j => ?_⟩
 rw [nt_set (by rw [h.len]; exact hi)]
 split
 ·exact hx
 ·exact h.lt j
def nuA (l : List Nat) : Array Value := (l.map fun (x : Nat) => Value.int .u64 (x : Int)).toArray
theorem nuA_get {l : List Nat} {i : Nat} (h : i < l.length) : (nuA l)[i]? = some (.int .u64 (nt l i : Int)) := by
 unfold nuA
 simp [nt_lt h]
theorem nuA_set {l : List Nat} {i x : Nat} : (nuA l).setIfInBounds i (.int .u64 (x : Int)) = nuA (l.set i x) := by
 unfold nuA
 simp [List.map_set]
def nuV (l : List Nat) : Value := .agg #[.int .u64 (nt l 0 : Int), .int .u64 (nt l 1 : Int), .int .u64 (nt l 2 : Int), .int .u64 (nt l 3 : Int)]
theorem nuA_four {l : List Nat} (h : l.length = 4) : nuA l = #[.int .u64 (nt l 0 : Int), .int .u64 (nt l 1 : Int), .int .u64 (nt l 2 : Int), .int .u64 (nt l 3 : Int)] := by
 match l, h with
 | [a, b, c, d], _ => rfl
def val4 (l : List Nat) : Nat := valB 18446744073709551616 l
theorem val4_lt {l : List Nat} (h : Wd 4 l) : val4 l < 18446744073709551616 ^ 4 := by
 have := valB_lt (B := 18446744073709551616) (by decide) h.mem
 rw [h.len] at this
 exact this

theorem add64 (x y c : Nat) (hc : c ≤ 1) (w : World) : (callFunc 297 #[.int .u64 (x : Int), .int .u64 (y : Int), .int .u64 (c : Int)]).run Tryz.prog w =
  .ok (.value (.tuple #[.int .u64 (((x + y + c) % 18446744073709551616 : Nat) : Int), .int .u64 (((x + y + c) / 18446744073709551616 : Nat) : Int)])) w := by
 rw [run_callFunc_extern Tryz.func297 (by kernel_rfl) (by kernel_rfl) (by kernel_rfl) (e := add64Entry) (by kernel_rfl), run_add64 x y c (by omega) (by omega) (by omega) (by omega)]
 simp only [Result.andThen]
 congr 5 <;> omega
theorem sub64 (x y b : Nat) (hb : b ≤ 1) (w : World) : (callFunc 344 #[.int .u64 (x : Int), .int .u64 (y : Int), .int .u64 (b : Int)]).run Tryz.prog w =
  .ok (.value (.tuple #[.int .u64 (((x + 18446744073709551616 - y - b) % 18446744073709551616 : Nat) : Int), .int .u64 ((if x < y + b then 1 else 0 : Nat) : Int)])) w := by
 rw [run_callFunc_extern Tryz.func344 (by kernel_rfl) (by kernel_rfl) (by kernel_rfl) (e := sub64Entry) (by kernel_rfl), run_sub64 x y b hb]
 rfl
theorem sub_word {B x y b : Nat} (hx : x < B) (hy : y < B) (hb : b ≤ 1) : ∃ r c : Nat, r < B ∧ c ≤ 1 ∧ (x + B - y - b) % B = r ∧ (if x < y + b then 1 else 0) = c ∧ r + y + b = x + c * B := by
 by_cases h : x < y + b
 ·refine ⟨x + B - y - b, 1, by omega, by omega, Nat.mod_eq_of_lt (by omega), if_pos h, by omega⟩
 ·refine ⟨x - y - b, 0, by omega, by omega, ?_, if_neg h, by omega⟩
  rw [show x + B - y - b = x - y - b + B by omega, Nat.add_mod_right, Nat.mod_eq_of_lt (by omega)]
theorem add_word {B x y c : Nat} (hx : x < B) (hy : y < B) (hc : c ≤ 1) : ∃ r k : Nat, r < B ∧ k ≤ 1 ∧ (x + y + c) % B = r ∧ (x + y + c) / B = k ∧ r + k * B = x + y + c := by
 have h1 := Nat.div_add_mod (x + y + c) B
 have h2 := Nat.mod_lt (x + y + c) (show 0 < B by omega)
 refine ⟨_, _, h2, ?_, rfl, rfl, by rw [Nat.mul_comm]; omega⟩
 have : (x + y + c) / B < 2 := Nat.div_lt_of_lt_mul (by omega)
 omega
def LowS (B : Nat) (a b r : List Nat) (k c : Nat) : Prop := valB B (r.drop k) + valB B (b.drop k) = valB B (a.drop k) + c * B ^ (4 - k)
theorem lowS_step {B : Nat} {a b r : List Nat} {i c d c' : Nat} (ha : a.length = 4) (hb : b.length = 4) (hr : r.length = 4) (hi : i < 4) (h : LowS B a b r (i + 1) c) (e : d + nt b i + c = nt a i + c' * B) : LowS B a b (r.set i d) i c' := by
 unfold LowS at *
 rw [valB_drop (l := r.set i d) (by rw [List.length_set, hr]; exact hi), valB_drop (l := b) (by rw [hb]; exact hi), valB_drop (l := a) (by rw [ha]; exact hi), drop_set, nt_set (by rw [hr]; exact hi), if_pos rfl, List.length_set, ha, hb, hr]
 have hp : B ^ (4 - i) = B ^ (4 - i - 1) * B := by rw [← Nat.pow_succ]; congr 1; omega
 rw [hp]
 rw [show 4 - (i + 1) = 4 - i - 1 by omega] at h
 generalize B ^ (4 - i - 1) = P at *
 have e2 : (d + nt b i + c) * P = (nt a i + c' * B) * P := by rw [e]
 grind
structure SubI (a b r : List Nat) (k c : Nat) : Prop where
 wd : Wd 4 r
 old : ∀ j, j < k → nt r j = nt a j
 c1 : c ≤ 1
 low : LowS 18446744073709551616 a b r k c
theorem SubI.start {a b : List Nat} (ha : Wd 4 a) (hb : Wd 4 b) : SubI a b a 4 0 := ⟨ha, fun _ _ => rfl, by omega, by
 unfold LowS
 rw [List.drop_eq_nil_of_le (by rw [ha.len]; exact Nat.le_refl 4), List.drop_eq_nil_of_le (by rw [hb.len]; exact Nat.le_refl 4)]
 simp [valB]⟩
theorem SubI.step {a b r : List Nat} {i c d c' : Nat} (h : SubI a b r (i + 1) c) (ha : Wd 4 a) (hb : Wd 4 b) (hi : i < 4) (hd : d < 18446744073709551616) (hc : c' ≤ 1) (e : d + nt b i + c = nt r i + c' * 18446744073709551616) : SubI a b (r.set i d) i c' :=
 ⟨h.wd.set hi hd, fun j hj => by rw [nt_set (by rw [h.wd.len]; exact hi), if_neg (by omega)]; exact h.old j (by omega), hc, lowS_step ha.len hb.len h.wd.len hi h.low (by rw [← h.old i (by omega)]; exact e)⟩
theorem SubI.done {a b r : List Nat} {c : Nat} (h : SubI a b r 0 c) : c ≤ 1 ∧ val4 r + val4 b = val4 a + c * 18446744073709551616 ^ 4 := ⟨h.c1, by have := h.low; unfold LowS at this; simpa [val4] using this⟩

set_option maxHeartbeats 1000000 in
set_option maxRecDepth 100000 in
theorem nm_sub (a b : List Nat) (ha : Wd 4 a) (hb : Wd 4 b) (w : World) :
  Calls Tryz.prog 321 #[nuV a, nuV b] w fun e w' => ∃ r d, e = .returned (nuV r) ∧ w' = bw w d ∧ Wd 4 r ∧ ∃ c, c ≤ 1 ∧ val4 r + val4 b = val4 a + c * 18446744073709551616 ^ 4 := by
 refine lay_start ?_
 unfold nuV
 go_enter Tryz.func321, Tryz.ntmps321
 go_wp2_with fail
 rw [← nuA_four ha.len, ← nuA_four hb.len]
 go_loopw [5, 6] (fun v5 v6 wr => ∃ (k c : Nat) (r : List Nat) (d : Ext), k ≤ 4 ∧ v5 = .int .u64 (c : Int) ∧ v6 = .int .i64 ((k : Int) - 1) ∧ wr = lay w [.inr d, .inl (.cells #[.int .u64 0, .int .u64 0, .int .u64 0, .int .u64 0] 355 (0, 0)), .inl (.cells (nuA b) 355 (0, 0)), .inl (.cells (nuA r) 355 (0, 0))] ∧ SubI a b r k c) (fun _ v6 _ => (intOf v6 + 1).toNat)
 case atStart => exact ⟨4, 0, a, noExt _, Nat.le_refl _, rfl, rfl, (bw_noExt _).symm, SubI.start ha hb⟩
 case round =>
  obtain ⟨k, c, r, d, hk, rfl, rfl, rfl, hS⟩ := hrel
  have HS := Lib.hid hS
  rcases k with _ | i
  ·rw [show ((0 : Nat) : Int) - 1 = -1 from rfl]
   have g0 := nuA_get (l := r) (i := 0) (by rw [hS.wd.len]; decide)
   have g1 := nuA_get (l := r) (i := 1) (by rw [hS.wd.len]; decide)
   have g2 := nuA_get (l := r) (i := 2) (by rw [hS.wd.len]; decide)
   have g3 := nuA_get (l := r) (i := 3) (by rw [hS.wd.len]; decide)
   clear hS
   go_wp2_with fail
   obtain ⟨dz, ez⟩ := lay_all w [.inr d, .inl (.cells #[.int .u64 (nt r 0 : Int), .int .u64 (nt r 1 : Int), .int .u64 (nt r 2 : Int), .int .u64 (nt r 3 : Int)] 355 (0, 0)), .inl (.cells (nuA b) 355 (0, 0)), .inl (.cells (nuA r) 355 (0, 0))]
   exact bodyPost_ret (v := .agg #[.int .u64 (nt r 0 : Int), .int .u64 (nt r 1 : Int), .int .u64 (nt r 2 : Int), .int .u64 (nt r 3 : Int)]) (by simp [results, Tryz.results321, go_sem]) rfl ⟨r, dz, rfl, ez, HS.out.wd, c, HS.out.done⟩
  ·rw [show ((i + 1 : Nat) : Int) - 1 = (i : Int) by omega]
   have hi : i < 4 := by omega
   have x0 : (0 : Int) ≤ (i : Int) := by omega
   have x1 : (i : Int) < 4 := by omega
   have x2 : (i : Int).toNat = i := by omega
   obtain ⟨X, hX⟩ : ∃ X, nt r i = X := ⟨_, rfl⟩
   obtain ⟨Y, hY⟩ : ∃ Y, nt b i = Y := ⟨_, rfl⟩
   have g0 := nuA_get (l := r) (i := i) (by rw [hS.wd.len]; exact hi)
   have g1 := nuA_get (l := b) (i := i) (by rw [hb.len]; exact hi)
   rw [hX] at g0
   rw [hY] at g1
   obtain ⟨D, c', hD, hc', e1, e2, e3⟩ := sub_word (x := X) (y := Y) (b := c) (B := 18446744073709551616) (by rw [← hX]; exact hS.wd.lt i) (by rw [← hY]; exact hb.lt i) hS.c1
   have hcall := fun W => sub64 X Y c hS.c1 W
   rw [e1, e2] at hcall
   have HN := Lib.hid (hS.step ha hb hi hD hc' (by rw [hX, hY]; exact e3))
   clear hS e1 e2 e3
   have hz : c ≤ 1 := HS.out.c1
   go_wp2_with fail
   refine region_mixS 13 [(0, 2), (1, 2), (2, 2), (3, 0), (4, 2), (5, 2), (6, 0), (7, 2), (8, 2), (9, 2), (10, 2), (11, 2), (12, 2), (13, 3), (14, 2)] (by kernel_rfl) (by kernel_rfl) (by kernel_rfl) rfl ?_
   repeat (first | (refine wpMS_pure rfl (fun K hK => ?_); go_simp; refine hK _ ?_; clear hK K) | (refine wpMS_quiet rfl (fun K hK => ?_); go_simp; first | (refine hK _ ?_; clear hK K) | (apply Exists.intro; refine ⟨fun _ => ?_, hK _ ?_⟩; (first | fail); clear hK K)))
   refine wpMS_store rfl (fun K hK e1 => ?_)
   rw [lay_bw]
   go_simp
   refine hK _ _ ?_
   clear hK K
   rw [nuA_set]
   repeat (first | (refine wpMS_pure rfl (fun K hK => ?_); go_simp; refine hK _ ?_; clear hK K) | (refine wpMS_quiet rfl (fun K hK => ?_); go_simp; first | (refine hK _ ?_; clear hK K) | (apply Exists.intro; refine ⟨fun _ => ?_, hK _ ?_⟩; (first | fail); clear hK K)))
   refine wpMS_nil (fun e2 => ?_)
   rw [lay_bw]
   obtain ⟨d3, e3⟩ := lay_fold w [.inr e2, .inr e1, .inr d] [.inl (.cells #[.int .u64 0, .int .u64 0, .int .u64 0, .int .u64 0] 355 (0, 0)), .inl (.cells (nuA b) 355 (0, 0)), .inl (.cells (nuA (r.set i D)) 355 (0, 0))]
   change lay w [.inr e2, .inr e1, .inr d, .inl (.cells #[.int .u64 0, .int .u64 0, .int .u64 0, .int .u64 0] 355 (0, 0)), .inl (.cells (nuA b) 355 (0, 0)), .inl (.cells (nuA (r.set i D)) 355 (0, 0))] = _ at e3
   rw [e3]
   clear e3
   go_wp2_with fail
   go_roundw
   case rel => exact ⟨i, c', r.set i D, d3, by omega, rfl, rfl, rfl, HN.out⟩
   case measure => simp [intOf]
end Go.Proofs.YtcbicpbbjbkiaaaGreatDoor
namespace Go.Proofs.YtcbicpbbjbkiaaaGreatDoor

structure DI (B U y1 y0 c q r : Nat) : Prop where
 eq : q * y1 + r = U
 up : U * B + c < (q + 1) * (y1 * B + y0)
 qb : q ≤ B + 1
theorem di_init {B U y1 y0 c : Nat} (h1 : B ≤ 2 * y1) (h0 : y0 < B) (hU : U < y1 * B + y0) (hc : c < B) : DI B U y1 y0 c (U / y1) (U % y1) ∧ U % y1 < y1 := by
 have hlt : U % y1 < y1 := Nat.mod_lt _ (by omega)
 have he : U / y1 * y1 + U % y1 = U := by rw [Nat.mul_comm]; exact Nat.div_add_mod U y1
 refine ⟨⟨he, ?_, ?_⟩, hlt⟩
 ·have h2 : U + 1 ≤ (U / y1 + 1) * y1 := by rw [Nat.succ_mul]; omega
  have h3 : (U + 1) * B ≤ (U / y1 + 1) * y1 * B := Nat.mul_le_mul_right _ h2
  have h4 : (U / y1 + 1) * (y1 * B + y0) = (U / y1 + 1) * y1 * B + (U / y1 + 1) * y0 := by rw [Nat.mul_add, Nat.mul_assoc]
  rw [h4]
  rw [Nat.succ_mul] at h3
  generalize (U / y1 + 1) * y1 * B = A at *
  generalize (U / y1 + 1) * y0 = C at *
  generalize U * B = D at *
  omega
 ·have e : y1 * (B + 2) = y1 * B + y1 * 2 := Nat.mul_add _ _ _
  have h2 : U < y1 * (B + 2) := by
   rw [e]
   generalize y1 * B = A at *
   omega
  have := Nat.div_lt_of_lt_mul h2
  omega
theorem di_step {B U y1 y0 c q r : Nat} (h : DI B U y1 y0 c q r) (hU : U < y1 * B + y0) (hc : c < B) (hcond : B ≤ q ∨ r * B + c < q * y0) : 0 < q ∧ DI B U y1 y0 c (q - 1) (r + y1) ∧ q - 1 ≤ B := by
 have hq : 0 < q := by
  rcases hcond with h1 | h1
  ·omega
  ·rcases Nat.eq_zero_or_pos q with e | e
   ·rw [e, Nat.zero_mul] at h1; omega
   ·exact e
 obtain ⟨p, rfl⟩ : ∃ p, q = p + 1 := ⟨q - 1, by omega⟩
 have he := h.eq
 rw [Nat.succ_mul] at he
 refine ⟨hq, ⟨by rw [Nat.add_sub_cancel]; omega, ?_, by have := h.qb; omega⟩, by have := h.qb; omega⟩
 rw [Nat.add_sub_cancel]
 rcases hcond with h1 | h1
 ·have h2 : (U + 1) * B ≤ (y1 * B + y0) * B := Nat.mul_le_mul_right _ hU
  have h3 : B * (y1 * B + y0) ≤ (p + 1) * (y1 * B + y0) := Nat.mul_le_mul_right _ h1
  rw [Nat.succ_mul] at h2
  rw [Nat.mul_comm B] at h3
  generalize (p + 1) * (y1 * B + y0) = A at *
  generalize (y1 * B + y0) * B = C at *
  generalize U * B = D at *
  omega
 ·have h4 : (p + 1) * (y1 * B + y0) = (p + 1) * y1 * B + (p + 1) * y0 := by rw [Nat.mul_add, Nat.mul_assoc]
  have h5 : U * B = (p + 1) * y1 * B + r * B := by rw [← Nat.add_mul, h.eq]
  rw [h4, h5]
  generalize (p + 1) * y1 * B = A at *
  generalize (p + 1) * y0 = C at *
  generalize r * B = D at *
  omega
theorem di_done {B U y1 y0 c q r : Nat} (h : DI B U y1 y0 c q r) (hle : q * y0 ≤ r * B + c) : (U * B + c) / (y1 * B + y0) = q ∧ q * (y1 * B + y0) ≤ U * B + c := by
 have h4 : q * (y1 * B + y0) = q * y1 * B + q * y0 := by rw [Nat.mul_add, Nat.mul_assoc]
 have h5 : U * B = q * y1 * B + r * B := by rw [← Nat.add_mul, h.eq]
 have hup := h.up
 have hle2 : q * (y1 * B + y0) ≤ U * B + c := by
  rw [h4, h5]
  generalize q * y1 * B = A at *
  generalize q * y0 = C at *
  generalize r * B = D at *
  omega
 exact ⟨Nat.div_eq_of_lt_le hle2 hup, hle2⟩
theorem di_break {B y0 c q r : Nat} (h0 : y0 < B) (hq : q ≤ B) (hr : B ≤ r) : q * y0 ≤ r * B + c :=
 Nat.le_trans (Nat.mul_le_mul hq (Nat.le_of_lt h0)) (Nat.le_trans (Nat.mul_le_mul_right B hr) (Nat.le_add_right _ _))
theorem two_digits {B U c1 c0 y : Nat} (hy : 0 < y) : ((U * B + c1) * B + c0) / y = (U * B + c1) / y * B + ((U * B + c1) % y * B + c0) / y ∧
  ((U * B + c1) * B + c0) % y = ((U * B + c1) % y * B + c0) % y := by
 have h := Nat.div_add_mod (U * B + c1) y
 generalize U * B + c1 = T at *
 have e : T * B + c0 = y * (T / y * B) + (T % y * B + c0) := by
  have h2 : T * B = y * (T / y) * B + T % y * B := by rw [← Nat.add_mul, h]
  rw [h2, ← Nat.mul_assoc, Nat.add_assoc]
 constructor
 ·rw [e, Nat.mul_add_div hy]
 ·rw [e, Nat.mul_add_mod]
theorem shifted (M y s : Nat) : (M * 2 ^ s) / (y * 2 ^ s) = M / y ∧ (M * 2 ^ s) % (y * 2 ^ s) / 2 ^ s = M % y := by
 have hp : 0 < 2 ^ s := Nat.pow_pos (by decide)
 constructor
 ·exact Nat.mul_div_mul_right M y hp
 ·rw [Nat.mul_mod_mul_right, Nat.mul_div_cancel _ hp]
end Go.Proofs.YtcbicpbbjbkiaaaGreatDoor
namespace Go.Proofs.YtcbicpbbjbkiaaaGreatDoor
open Go.RowKit

theorem div_nums {hi lo y s : Nat} (hhi : hi < y) (hlo : lo < 18446744073709551616) (hs : s ≤ 63) :
  lo / 2 ^ (64 - s) < 2 ^ s ∧ hi * 2 ^ s + lo / 2 ^ (64 - s) < y * 2 ^ s ∧ (hi * 18446744073709551616 + lo) * 2 ^ s = (hi * 2 ^ s + lo / 2 ^ (64 - s)) * 18446744073709551616 + lo * 2 ^ s % 18446744073709551616 := by
 have hpr : 2 ^ s * 2 ^ (64 - s) = 18446744073709551616 := by rw [← Nat.pow_add]; rw [show s + (64 - s) = 64 by omega]
 have hp : 0 < 2 ^ s := Nat.pow_pos (by decide)
 have hr : 0 < 2 ^ (64 - s) := Nat.pow_pos (by decide)
 generalize 2 ^ s = p at *
 generalize 2 ^ (64 - s) = r at *
 have h1 : lo / r < p := Nat.div_lt_of_lt_mul (by rw [Nat.mul_comm, hpr]; exact hlo)
 refine ⟨h1, ?_, ?_⟩
 ·have : (hi + 1) * p ≤ y * p := Nat.mul_le_mul_right _ hhi
  rw [Nat.succ_mul] at this
  generalize y * p = A at *
  generalize hi * p = C at *
  omega
 ·have h2 : lo * p = lo / r * 18446744073709551616 + lo % r * p := by
   rw [← hpr, Nat.mul_comm p r, ← Nat.mul_assoc, ← Nat.add_mul, Nat.mul_comm (lo / r) r, Nat.div_add_mod]
  have h3 : lo % r * p < 18446744073709551616 := by
   rw [← hpr, Nat.mul_comm p r]; exact Nat.mul_lt_mul_of_pos_right (Nat.mod_lt _ hr) hp
  rw [Nat.add_mul, Nat.add_mul, h2, Nat.mul_right_comm hi 18446744073709551616 p]
  generalize lo % r * p = A at *
  generalize hi * p = C at *
  generalize lo / r = D at *
  omega
theorem lz_of (y : Nat) (h0 : y ≠ 0) (h1 : y < 18446744073709551616) : ∃ s : Nat, s ≤ 63 ∧ (64 - (Lib.bitLen y : Int)) = (s : Int) ∧ y * 2 ^ s < 18446744073709551616 ∧ 9223372036854775808 ≤ y * 2 ^ s := by
 obtain ⟨b1, b2, b3⟩ := Lib.bitLenAux_bounds 64 y (by simpa using h1) h0
 have e : Lib.bitLenAux 64 y = Lib.bitLen y := rfl
 rw [e] at b1 b2 b3
 have h64 : Lib.bitLen y ≤ 64 := Lib.bitLen_le y 64 (by omega) (by simpa using h1)
 generalize Lib.bitLen y = k at *
 refine ⟨64 - k, by omega, by omega, ?_, ?_⟩
 ·have : y * 2 ^ (64 - k) < 2 ^ k * 2 ^ (64 - k) := Nat.mul_lt_mul_of_pos_right b3 (Nat.pow_pos (by decide))
  rw [← Nat.pow_add, show k + (64 - k) = 64 by omega] at this
  exact this
 ·have : 2 ^ (k - 1) * 2 ^ (64 - k) ≤ y * 2 ^ (64 - k) := Nat.mul_le_mul_right _ b2
  rw [← Nat.pow_add, show k - 1 + (64 - k) = 63 by omega] at this
  exact this
theorem pow_cast (y s : Nat) : (y : Int) * 2 ^ s = ((y * 2 ^ s : Nat) : Int) := by rw [Int.natCast_mul, Int.natCast_pow]; rfl
theorem or_add {a b s : Nat} (h : b < 2 ^ s) : (a * 2 ^ s ||| b) = a * 2 ^ s + b := by rw [Nat.mul_comm a]; exact (Nat.two_pow_add_eq_or_of_lt h a).symm
theorem tdiv_cast (a b : Nat) : ((a : Int).tdiv (b : Int)) = ((a / b : Nat) : Int) := by rw [Int.tdiv_eq_ediv_of_nonneg (by omega)]; exact (Int.natCast_ediv a b).symm
theorem wrap_tdiv (a b : Nat) (ha : a < 18446744073709551616) : IntKind.u64.wrap ((a : Int).tdiv (b : Int)) = ((a / b : Nat) : Int) := by
 rw [tdiv_cast]; exact Mul64.wrapN _ (Nat.lt_of_le_of_lt (Nat.div_le_self _ _) ha)
theorem wrap_rest (a b : Nat) (ha : a < 18446744073709551616) : IntKind.u64.wrap ((a : Int) - IntKind.u64.wrap (((a / b : Nat) : Int) * (b : Int))) = ((a % b : Nat) : Int) := by
 have h := Nat.div_add_mod a b
 rw [Nat.mul_comm] at h
 rw [Mul64.mulN, Mul64.wrapN _ (by omega), IntKind.wrap_u64]
 generalize a / b * b = A at *
 generalize a % b = C at *
 omega
theorem wrap_digit (U c Y q : Nat) (hY : 0 < Y) (hYb : Y < 18446744073709551616) (hq : q = (U * 4294967296 + c) / Y) :
  IntKind.u64.wrap (IntKind.u64.wrap (IntKind.u64.wrap ((U : Int) * 4294967296) + (c : Int)) - IntKind.u64.wrap ((q : Int) * (Y : Int))) = (((U * 4294967296 + c) % Y : Nat) : Int) := by
 have h := Nat.div_add_mod (U * 4294967296 + c) Y
 have hl := Nat.mod_lt (U * 4294967296 + c) hY
 rw [← hq, Nat.mul_comm] at h
 rw [Mul64.mulN, IntKind.wrap_u64, IntKind.wrap_u64, IntKind.wrap_u64, IntKind.wrap_u64]
 generalize q * Y = A at *
 generalize (U * 4294967296 + c) % Y = C at *
 omega
theorem wrap_two (q1 q0 T : Nat) (h : q1 * 4294967296 + q0 = T) (hT : T < 18446744073709551616) :
  IntKind.u64.wrap (IntKind.u64.wrap ((q1 : Int) * 4294967296) + (q0 : Int)) = (T : Int) := by
 rw [IntKind.wrap_u64, IntKind.wrap_u64]; omega
theorem join_gen (B U L : Nat) : (U * B + L / B) * B + L % B = U * (B * B) + L := by
 have h := Nat.div_add_mod L B
 rw [Nat.add_mul, Nat.mul_assoc, Nat.mul_comm (L / B), Nat.add_assoc, h]
theorem join_words (U L : Nat) : (U * 4294967296 + L / 4294967296) * 4294967296 + L % 4294967296 = U * 18446744073709551616 + L := by
 have h := join_gen 4294967296 U L
 have e : (4294967296 * 4294967296 : Nat) = 18446744073709551616 := by decide
 rw [e] at h
 exact h
set_option maxHeartbeats 4000000 in
theorem div64' (hi lo y qf rf : Nat) (hqf : qf = (hi * 18446744073709551616 + lo) / y) (hrf : rf = (hi * 18446744073709551616 + lo) % y) (hhi : hi < y) (hlo : lo < 18446744073709551616) (hy : y < 18446744073709551616) (w : World) :
  Calls Tryz.prog 307 #[.int .u64 (hi : Int), .int .u64 (lo : Int), .int .u64 (y : Int)] w fun e w' =>
   e = .returned (.tuple #[.int .u64 (qf : Int), .int .u64 (rf : Int)]) ∧ ∃ d, w' = bw w d := by
 refine lay_start ?_
 have hyz : (y : Int) ≠ 0 := by omega
 have hyn : ¬ y = 0 := by omega
 have hlt : ¬ (y : Int) ≤ (hi : Int) := by omega
 have hyb : ((y : Int) == 0) = false := by simp; omega
 by_cases h0 : hi = 0
 ·subst h0
  have hq : IntKind.u64.wrap ((lo : Int).tdiv (y : Int)) = ((lo / y : Nat) : Int) := wrap_tdiv lo y hlo
  have hr : IntKind.u64.wrap ((lo : Int) % (y : Int)) = ((lo % y : Nat) : Int) := by
   rw [← Int.natCast_emod]; exact Mul64.wrapN _ (Nat.lt_of_le_of_lt (Nat.mod_le _ _) hlo)
  go_enter Tryz.func307, Tryz.ntmps307
  go_wp2_with fail
  refine region_bw (by kernel_rfl) (by kernel_rfl) ?_
  repeat (go_big_quiet_step ((first | fail)))
  refine wpQuiet_nil ?_
  rintro w' ⟨d, rfl⟩
  rw [lay_bw]
  go_wp2_with fail
  have hq' : IntKind.u64.wrap ((lo : Int) / (y : Int)) = ((lo / y : Nat) : Int) := by
   rw [← Int.natCast_ediv]; exact Mul64.wrapN _ (Nat.lt_of_le_of_lt (Nat.div_le_self _ _) hlo)
  go_ret2
  refine ⟨?_, lay_ex w _⟩
  rw [hq', ← Int.natCast_emod, hqf, hrf, Nat.zero_mul, Nat.zero_add]
  rfl
 ·have h0b : ((hi : Int) == 0) = false := by simp; omega
  obtain ⟨s, hs, es, hup, hdn⟩ := lz_of y (by omega) hy
  obtain ⟨n1, n2, n3⟩ := div_nums hhi hlo hs
  have c := Tryz.bits_LeadingZeros64 (y : Int) (lay w []) (by omega) (by omega)
  rw [show ((y : Int).toNat) = y by omega, es] at c
  obtain ⟨hsh1, hsh2⟩ := shifted (hi * 18446744073709551616 + lo) y s
  have hTb : (hi * 18446744073709551616 + lo) / y < 18446744073709551616 := Nat.div_lt_of_lt_mul (by
   have : (hi + 1) * 18446744073709551616 ≤ y * 18446744073709551616 := Nat.mul_le_mul_right _ hhi
   omega)
  have eY : IntKind.u64.wrap ((y : Int) * 2 ^ s) = ((y * 2 ^ s : Nat) : Int) := by rw [pow_cast]; exact Mul64.wrapN _ hup
  have eL : IntKind.u64.wrap ((lo : Int) * 2 ^ s) = ((lo * 2 ^ s % 18446744073709551616 : Nat) : Int) := by rw [pow_cast]; exact Mul64.wrapM _
  obtain ⟨H0, eH0⟩ : ∃ H0, H0 = hi * 2 ^ s := ⟨_, rfl⟩
  obtain ⟨D0, eD0⟩ : ∃ D0, D0 = lo / 2 ^ (64 - s) := ⟨_, rfl⟩
  rw [← eH0, ← eD0] at n2 n3
  rw [← eD0] at n1
  have hhs : H0 < 18446744073709551616 := Nat.lt_of_le_of_lt (Nat.le_add_right _ _) (Nat.lt_trans n2 hup)
  have eH : IntKind.u64.wrap ((hi : Int) * 2 ^ s) = (H0 : Int) := by rw [pow_cast, ← eH0]; exact Mul64.wrapN _ hhs
  have eD : (lo : Int) / 2 ^ (64 - s) = (D0 : Int) := by rw [eD0, Int.natCast_ediv, Int.natCast_pow]; rfl
  have eO : bits .or .u64 (H0 : Int) (D0 : Int) = ((H0 + D0 : Nat) : Int) := by
   rw [bits_or_u64_nat _ _ hhs (Nat.lt_of_le_of_lt (Nat.le_add_left _ _) (Nat.lt_trans n2 hup)), eH0, or_add n1]
  have ep : ((M : Nat) → ((M : Nat) : Int) / 2 ^ s = ((M / 2 ^ s : Nat) : Int)) := fun M => by rw [Int.natCast_ediv, Int.natCast_pow]; rfl
  rw [n3] at hsh1 hsh2
  generalize hGL : lo * 2 ^ s % 18446744073709551616 = L at *
  generalize hGU : H0 + D0 = U at *
  generalize hGY : y * 2 ^ s = Y at *
  have hL : L < 18446744073709551616 := by rw [← hGL]; exact Nat.mod_lt _ (by decide)
  have m1 : bits .and .u64 (Y : Int) 4294967295 = ((Y % 4294967296 : Nat) : Int) := Mul64.maskN Y hup
  have m2 : bits .and .u64 (L : Int) 4294967295 = ((L % 4294967296 : Nat) : Int) := Mul64.maskN L hL
  have d1 : (Y : Int) / 4294967296 = ((Y / 4294967296 : Nat) : Int) := Mul64.divN _
  have d2 : (L : Int) / 4294967296 = ((L / 4294967296 : Nat) : Int) := Mul64.divN _
  obtain ⟨y1, hy1⟩ : ∃ y1, y1 = Y / 4294967296 := ⟨_, rfl⟩
  obtain ⟨y0, hy0e⟩ : ∃ y0, y0 = Y % 4294967296 := ⟨_, rfl⟩
  obtain ⟨c1, hc1e⟩ : ∃ c1, c1 = L / 4294967296 := ⟨_, rfl⟩
  obtain ⟨c0, hc0e⟩ : ∃ c0, c0 = L % 4294967296 := ⟨_, rfl⟩
  rw [← hy1] at d1
  rw [← hy0e] at m1
  rw [← hc1e] at d2
  rw [← hc0e] at m2
  have hyy : y1 * 4294967296 + y0 = Y := by omega
  have hy0 : y0 < 4294967296 := by omega
  have hy1b : y1 < 4294967296 := by omega
  have hc1 : c1 < 4294967296 := by omega
  have hc0 : c0 < 4294967296 := by omega
  have hy1u : 4294967296 ≤ 2 * y1 := by omega
  have hU : U < y1 * 4294967296 + y0 := by omega
  have hUb : U < 18446744073709551616 := by omega
  obtain ⟨Q1, eQ1⟩ : ∃ Q1, Q1 = U / y1 := ⟨_, rfl⟩
  obtain ⟨T1, eT1⟩ : ∃ T1, T1 = U % y1 := ⟨_, rfl⟩
  obtain ⟨D1, hr1⟩ := di_init hy1u hy0 hU hc1
  have g1 : IntKind.u64.wrap ((U : Int) / (y1 : Int)) = (Q1 : Int) := by rw [eQ1, ← wrap_tdiv U y1 hUb, tdiv_cast, Int.natCast_ediv]
  have g2 := wrap_rest U y1 hUb
  rw [← eQ1, ← eT1] at g2 D1
  rw [← eT1] at hr1
  obtain ⟨R1, hR1e⟩ : ∃ R1, R1 = (U * 4294967296 + c1) % Y := ⟨_, rfl⟩
  have hR1 : R1 < y1 * 4294967296 + y0 := by rw [hyy, hR1e]; exact Nat.mod_lt _ (by omega)
  have hR1b : R1 < 18446744073709551616 := by omega
  obtain ⟨Q2, eQ2⟩ : ∃ Q2, Q2 = R1 / y1 := ⟨_, rfl⟩
  obtain ⟨T2, eT2⟩ : ∃ T2, T2 = R1 % y1 := ⟨_, rfl⟩
  obtain ⟨D2, hr2⟩ := di_init hy1u hy0 hR1 hc0
  have g3 : IntKind.u64.wrap ((R1 : Int) / (y1 : Int)) = (Q2 : Int) := by rw [eQ2, ← wrap_tdiv R1 y1 hR1b, tdiv_cast, Int.natCast_ediv]
  have g4 := wrap_rest R1 y1 hR1b
  rw [← eQ2, ← eT2] at g4 D2
  rw [← eT2] at hr2
  have hT : ∀ q1 : Nat, q1 = (U * 4294967296 + c1) / Y → IntKind.u64.wrap (IntKind.u64.wrap (IntKind.u64.wrap ((U : Int) * 4294967296) + (c1 : Int)) - IntKind.u64.wrap ((q1 : Int) * (Y : Int))) = (R1 : Int) := fun q1 h => by
   rw [hR1e]; exact wrap_digit U c1 Y q1 (by omega) (by omega) h
  obtain ⟨t1, t2⟩ := two_digits (B := 4294967296) (U := U) (c1 := c1) (c0 := c0) (y := Y) (by omega)
  have hML : (U * 4294967296 + c1) * 4294967296 + c0 = U * 18446744073709551616 + L := by rw [hc1e, hc0e]; exact join_words U L
  rw [hML, hsh1] at t1
  rw [hML] at t2
  rw [← hR1e] at t1 t2
  rw [← hqf] at t1
  obtain ⟨R0, hR0⟩ : ∃ R0, R0 = (R1 * 4294967296 + c0) % Y := ⟨_, rfl⟩
  rw [← hqf] at hTb
  rw [t2] at hsh2
  have hE1 : ∀ q1 : Nat, q1 = (U * 4294967296 + c1) / Y → ∀ q0 : Nat, q0 = (R1 * 4294967296 + c0) / Y → IntKind.u64.wrap (IntKind.u64.wrap ((q1 : Int) * 4294967296) + (q0 : Int)) = (qf : Int) ∧ IntKind.u64.wrap ((q1 : Int) * 4294967296 + (q0 : Int)) = (qf : Int) := fun q1 h1 q0 h0 => by
   have e : q1 * 4294967296 + q0 = qf := by rw [t1, h1, h0]
   refine ⟨wrap_two q1 q0 _ e hTb, ?_⟩
   rw [IntKind.wrap_u64]; omega
  have hE2 : ∀ q0 : Nat, q0 = (R1 * 4294967296 + c0) / Y → IntKind.u64.wrap (IntKind.u64.wrap (IntKind.u64.wrap ((R1 : Int) * 4294967296) + (c0 : Int)) - IntKind.u64.wrap ((q0 : Int) * (Y : Int))) = (R0 : Int) := fun q0 h => by
   rw [hR0]; exact wrap_digit R1 c0 Y q0 (by omega) (by omega) h
  have hE3 : (R0 : Int) / 2 ^ s = (rf : Int) := by rw [ep, hR0, hsh2, hrf]
  have hy1z : (y1 : Int) ≠ 0 := by omega
  have hy1n : ¬ y1 = 0 := by omega
  clear t1 t2 hML hsh1 hsh2 hGL hGU hGY n1 n2 n3 ep es hR1e hTb eQ1 eT1 eQ2 eT2 hR0 eH0 eD0 hqf hrf hL hhs hUb hR1b hy1u hdn
  have HX := Lib.hid (And.intro hyy (And.intro hy0 (And.intro hy1b (And.intro hc1 (And.intro hc0 (And.intro hU (And.intro hr1 (And.intro hR1 (And.intro hr2 (And.intro D1 (And.intro D2 hup)))))))))))
  have HE := Lib.hid (And.intro hT (And.intro hE1 hE2))
  clear hyy hy0 hy1b hc1 hc0 hU hr1 hR1 hr2 D1 D2 hT hE1 hE2 hup hy1 hy0e hc1e hc0e hhi hlo hy h0
  go_enter Tryz.func307, Tryz.ntmps307
  go_wp2_with (first | (go_at_call 328; refine c.mono ?_; rintro e w' ⟨rfl, hw⟩; rw [hw]))
  go_loopw [15, 16] (fun v15 v16 wr => ∃ q r : Nat, v15 = .int .u64 (q : Int) ∧ v16 = .int .u64 (r : Int) ∧ wr = lay w [] ∧ DI 4294967296 U y1 y0 c1 q r ∧ r < 4294967296) (fun v15 _ _ => (intOf v15).toNat)
  case atStart =>
   obtain ⟨hyy, hy0, hy1b, hc1, hc0, hU, hr1, hR1, hr2, D1, D2, hup⟩ := HX.out
   exact ⟨Q1, T1, rfl, rfl, rfl, D1, by omega⟩
  case round =>
   obtain ⟨q, r, rfl, rfl, hw, D, hr⟩ := hrel
   rw [hw]
   clear hw
   obtain ⟨hyy, hy0, hy1b, hc1, hc0, hU, hr1, hR1, hr2, D1, D2, hup⟩ := HX.out
   have hqy := Nat.mul_le_mul D.qb (Nat.le_sub_one_of_lt hy0)
   have hqb := D.qb
   obtain ⟨P, eP⟩ : ∃ P, P = q * y0 := ⟨_, rfl⟩
   obtain ⟨N0, eN0⟩ : ∃ N0, N0 = 4294967296 * r := ⟨_, rfl⟩
   obtain ⟨N1, eN1⟩ : ∃ N1, N1 = N0 + c1 := ⟨_, rfl⟩
   obtain ⟨r2, er2⟩ : ∃ r2, r2 = r + y1 := ⟨_, rfl⟩
   obtain ⟨p, ep⟩ : ∃ p, p = q - 1 := ⟨_, rfl⟩
   have f1 : IntKind.u64.wrap ((q : Int) * (y0 : Int)) = (P : Int) := by rw [Mul64.mulN, ← eP]; exact Mul64.wrapN _ (by omega)
   have f2 : IntKind.u64.wrap (4294967296 * (r : Int)) = (N0 : Int) := by rw [IntKind.wrap_u64]; omega
   have f3 : IntKind.u64.wrap ((N0 : Int) + (c1 : Int)) = (N1 : Int) := by rw [IntKind.wrap_u64]; omega
   have f5 : IntKind.u64.wrap ((r : Int) + (y1 : Int)) = (r2 : Int) := by rw [IntKind.wrap_u64]; omega
   by_cases hA : 4294967296 ≤ q
   ·have hA' : (4294967296 : Int) ≤ (q : Int) := by omega
    obtain ⟨p0, D', pB⟩ := di_step D hU hc1 (Or.inl hA)
    rw [← ep, ← er2] at D'
    rw [← ep] at pB
    have f4 : IntKind.u64.wrap ((q : Int) - 1) = (p : Int) := by rw [IntKind.wrap_u64]; omega
    by_cases hE : 4294967296 ≤ r2
    ·have hE' : (4294967296 : Int) ≤ (r2 : Int) := by omega
     obtain ⟨hq, -⟩ := di_done D' (di_break hy0 pB hE)
     clear D' pB hE p0
     rw [hyy] at hq
     have k1 := HE.out.1 _ hq.symm
     have K2 := Lib.hid (HE.out.2.1 _ hq.symm)
     clear hyy hy0 hy1b hc1 hc0 hU hr1 hR1 hr2 D1 D2 hup hqy hqb eP eN0 eN1 er2 ep hA D hr
     clear hq
     go_wp2_with fail
     go_loopw [18, 16] (fun v18 v16 wr => ∃ q r : Nat, v18 = .int .u64 (q : Int) ∧ v16 = .int .u64 (r : Int) ∧ wr = lay w [] ∧ DI 4294967296 R1 y1 y0 c0 q r ∧ r < 4294967296) (fun v18 _ _ => (intOf v18).toNat)
     case atStart =>
      obtain ⟨hyy, hy0, hy1b, hc1, hc0, hU, hr1, hR1, hr2, D1, D2, hup⟩ := HX.out
      exact ⟨Q2, T2, rfl, rfl, rfl, D2, by omega⟩
     case round =>
      obtain ⟨q, r, rfl, rfl, hw, D, hr⟩ := hrel
      rw [hw]
      clear hw
      obtain ⟨hyy, hy0, hy1b, hc1, hc0, hU, hr1, hR1, hr2, D1, D2, hup⟩ := HX.out
      have hqy := Nat.mul_le_mul D.qb (Nat.le_sub_one_of_lt hy0)
      have hqb := D.qb
      obtain ⟨P, eP⟩ : ∃ P, P = q * y0 := ⟨_, rfl⟩
      obtain ⟨N0, eN0⟩ : ∃ N0, N0 = 4294967296 * r := ⟨_, rfl⟩
      obtain ⟨N1, eN1⟩ : ∃ N1, N1 = N0 + c0 := ⟨_, rfl⟩
      obtain ⟨r2, er2⟩ : ∃ r2, r2 = r + y1 := ⟨_, rfl⟩
      obtain ⟨p, ep⟩ : ∃ p, p = q - 1 := ⟨_, rfl⟩
      have f1 : IntKind.u64.wrap ((q : Int) * (y0 : Int)) = (P : Int) := by rw [Mul64.mulN, ← eP]; exact Mul64.wrapN _ (by omega)
      have f2 : IntKind.u64.wrap (4294967296 * (r : Int)) = (N0 : Int) := by rw [IntKind.wrap_u64]; omega
      have f3 : IntKind.u64.wrap ((N0 : Int) + (c0 : Int)) = (N1 : Int) := by rw [IntKind.wrap_u64]; omega
      have f5 : IntKind.u64.wrap ((r : Int) + (y1 : Int)) = (r2 : Int) := by rw [IntKind.wrap_u64]; omega
      by_cases hA : 4294967296 ≤ q
      ·have hA' : (4294967296 : Int) ≤ (q : Int) := by omega
       obtain ⟨p0, D', pB⟩ := di_step D hR1 hc0 (Or.inl hA)
       rw [← ep, ← er2] at D'
       rw [← ep] at pB
       have f4 : IntKind.u64.wrap ((q : Int) - 1) = (p : Int) := by rw [IntKind.wrap_u64]; omega
       by_cases hE : 4294967296 ≤ r2
       ·have hE' : (4294967296 : Int) ≤ (r2 : Int) := by omega
        obtain ⟨hq, -⟩ := di_done D' (di_break hy0 pB hE)
        clear D' pB hE p0
        rw [hyy] at hq
        have k3 := HE.out.2.2 _ hq.symm
        obtain ⟨k4, k5⟩ := K2.out _ hq.symm
        clear hyy hy0 hy1b hc1 hc0 hU hr1 hR1 hr2 D1 D2 hup hqy hqb eP eN0 eN1 er2 ep hA D hr
        clear hq
        go_wp2_with fail
        go_ret2
        exact ⟨rfl, lay_ex w []⟩
       ·have hE' : ¬ (4294967296 : Int) ≤ (r2 : Int) := by omega
        have hm : p < q := by omega
        have HK := Lib.hid (And.intro D' (And.intro hm (Nat.lt_of_not_le hE)))
        clear hyy hy0 hy1b hc1 hc0 hU hr1 hR1 hr2 D1 D2 hup hqy hqb eP eN0 eN1 er2 ep hA D hr
        clear D' pB hE hm p0
        go_wp2_with fail
        go_roundw
        case rel => exact ⟨p, r2, rfl, rfl, by first | trivial | rfl, HK.out.1, HK.out.2.2⟩
        case measure =>
         have := HK.out.2.1
         simp only [intOf]
         omega
      ·have hA' : ¬ (4294967296 : Int) ≤ (q : Int) := by omega
       by_cases hB : N1 < P
       ·have hB' : (N1 : Int) < (P : Int) := Int.ofNat_lt.2 hB
        obtain ⟨p0, D', pB⟩ := di_step D hR1 hc0 (Or.inr (by rw [← eP]; omega))
        clear hB
        rw [← ep, ← er2] at D'
        rw [← ep] at pB
        have f4 : IntKind.u64.wrap ((q : Int) - 1) = (p : Int) := by rw [IntKind.wrap_u64]; omega
        by_cases hE : 4294967296 ≤ r2
        ·have hE' : (4294967296 : Int) ≤ (r2 : Int) := by omega
         obtain ⟨hq, -⟩ := di_done D' (di_break hy0 pB hE)
         clear D' pB hE p0
         rw [hyy] at hq
         have k3 := HE.out.2.2 _ hq.symm
         obtain ⟨k4, k5⟩ := K2.out _ hq.symm
         clear hyy hy0 hy1b hc1 hc0 hU hr1 hR1 hr2 D1 D2 hup hqy hqb eP eN0 eN1 er2 ep hA D hr
         clear hq
         go_wp2_with fail
         go_ret2
         exact ⟨rfl, lay_ex w []⟩
        ·have hE' : ¬ (4294967296 : Int) ≤ (r2 : Int) := by omega
         have hm : p < q := by omega
         have HK := Lib.hid (And.intro D' (And.intro hm (Nat.lt_of_not_le hE)))
         clear hyy hy0 hy1b hc1 hc0 hU hr1 hR1 hr2 D1 D2 hup hqy hqb eP eN0 eN1 er2 ep hA D hr
         clear D' pB hE hm p0
         go_wp2_with fail
         go_roundw
         case rel => exact ⟨p, r2, rfl, rfl, by first | trivial | rfl, HK.out.1, HK.out.2.2⟩
         case measure =>
          have := HK.out.2.1
          simp only [intOf]
          omega
       ·have hB' : ¬ (N1 : Int) < (P : Int) := fun h => hB (Int.ofNat_lt.1 h)
        obtain ⟨hq, -⟩ := di_done D (by rw [← eP]; omega)
        clear hB
        rw [hyy] at hq
        have k3 := HE.out.2.2 _ hq.symm
        obtain ⟨k4, k5⟩ := K2.out _ hq.symm
        clear hyy hy0 hy1b hc1 hc0 hU hr1 hR1 hr2 D1 D2 hup hqy hqb eP eN0 eN1 er2 ep hA D hr
        clear hq
        go_wp2_with fail
        go_ret2
        exact ⟨rfl, lay_ex w []⟩
    ·have hE' : ¬ (4294967296 : Int) ≤ (r2 : Int) := by omega
     have hm : p < q := by omega
     have HK := Lib.hid (And.intro D' (And.intro hm (Nat.lt_of_not_le hE)))
     clear hyy hy0 hy1b hc1 hc0 hU hr1 hR1 hr2 D1 D2 hup hqy hqb eP eN0 eN1 er2 ep hA D hr
     clear D' pB hE hm p0
     go_wp2_with fail
     go_roundw
     case rel => exact ⟨p, r2, rfl, rfl, by first | trivial | rfl, HK.out.1, HK.out.2.2⟩
     case measure =>
      have := HK.out.2.1
      simp only [intOf]
      omega
   ·have hA' : ¬ (4294967296 : Int) ≤ (q : Int) := by omega
    by_cases hB : N1 < P
    ·have hB' : (N1 : Int) < (P : Int) := Int.ofNat_lt.2 hB
     obtain ⟨p0, D', pB⟩ := di_step D hU hc1 (Or.inr (by rw [← eP]; omega))
     clear hB
     rw [← ep, ← er2] at D'
     rw [← ep] at pB
     have f4 : IntKind.u64.wrap ((q : Int) - 1) = (p : Int) := by rw [IntKind.wrap_u64]; omega
     by_cases hE : 4294967296 ≤ r2
     ·have hE' : (4294967296 : Int) ≤ (r2 : Int) := by omega
      obtain ⟨hq, -⟩ := di_done D' (di_break hy0 pB hE)
      clear D' pB hE p0
      rw [hyy] at hq
      have k1 := HE.out.1 _ hq.symm
      have K2 := Lib.hid (HE.out.2.1 _ hq.symm)
      clear hyy hy0 hy1b hc1 hc0 hU hr1 hR1 hr2 D1 D2 hup hqy hqb eP eN0 eN1 er2 ep hA D hr
      clear hq
      go_wp2_with fail
      go_loopw [18, 16] (fun v18 v16 wr => ∃ q r : Nat, v18 = .int .u64 (q : Int) ∧ v16 = .int .u64 (r : Int) ∧ wr = lay w [] ∧ DI 4294967296 R1 y1 y0 c0 q r ∧ r < 4294967296) (fun v18 _ _ => (intOf v18).toNat)
      case atStart =>
       obtain ⟨hyy, hy0, hy1b, hc1, hc0, hU, hr1, hR1, hr2, D1, D2, hup⟩ := HX.out
       exact ⟨Q2, T2, rfl, rfl, rfl, D2, by omega⟩
      case round =>
       obtain ⟨q, r, rfl, rfl, hw, D, hr⟩ := hrel
       rw [hw]
       clear hw
       obtain ⟨hyy, hy0, hy1b, hc1, hc0, hU, hr1, hR1, hr2, D1, D2, hup⟩ := HX.out
       have hqy := Nat.mul_le_mul D.qb (Nat.le_sub_one_of_lt hy0)
       have hqb := D.qb
       obtain ⟨P, eP⟩ : ∃ P, P = q * y0 := ⟨_, rfl⟩
       obtain ⟨N0, eN0⟩ : ∃ N0, N0 = 4294967296 * r := ⟨_, rfl⟩
       obtain ⟨N1, eN1⟩ : ∃ N1, N1 = N0 + c0 := ⟨_, rfl⟩
       obtain ⟨r2, er2⟩ : ∃ r2, r2 = r + y1 := ⟨_, rfl⟩
       obtain ⟨p, ep⟩ : ∃ p, p = q - 1 := ⟨_, rfl⟩
       have f1 : IntKind.u64.wrap ((q : Int) * (y0 : Int)) = (P : Int) := by rw [Mul64.mulN, ← eP]; exact Mul64.wrapN _ (by omega)
       have f2 : IntKind.u64.wrap (4294967296 * (r : Int)) = (N0 : Int) := by rw [IntKind.wrap_u64]; omega
       have f3 : IntKind.u64.wrap ((N0 : Int) + (c0 : Int)) = (N1 : Int) := by rw [IntKind.wrap_u64]; omega
       have f5 : IntKind.u64.wrap ((r : Int) + (y1 : Int)) = (r2 : Int) := by rw [IntKind.wrap_u64]; omega
       by_cases hA : 4294967296 ≤ q
       ·have hA' : (4294967296 : Int) ≤ (q : Int) := by omega
        obtain ⟨p0, D', pB⟩ := di_step D hR1 hc0 (Or.inl hA)
        rw [← ep, ← er2] at D'
        rw [← ep] at pB
        have f4 : IntKind.u64.wrap ((q : Int) - 1) = (p : Int) := by rw [IntKind.wrap_u64]; omega
        by_cases hE : 4294967296 ≤ r2
        ·have hE' : (4294967296 : Int) ≤ (r2 : Int) := by omega
         obtain ⟨hq, -⟩ := di_done D' (di_break hy0 pB hE)
         clear D' pB hE p0
         rw [hyy] at hq
         have k3 := HE.out.2.2 _ hq.symm
         obtain ⟨k4, k5⟩ := K2.out _ hq.symm
         clear hyy hy0 hy1b hc1 hc0 hU hr1 hR1 hr2 D1 D2 hup hqy hqb eP eN0 eN1 er2 ep hA D hr
         clear hq
         go_wp2_with fail
         go_ret2
         exact ⟨rfl, lay_ex w []⟩
        ·have hE' : ¬ (4294967296 : Int) ≤ (r2 : Int) := by omega
         have hm : p < q := by omega
         have HK := Lib.hid (And.intro D' (And.intro hm (Nat.lt_of_not_le hE)))
         clear hyy hy0 hy1b hc1 hc0 hU hr1 hR1 hr2 D1 D2 hup hqy hqb eP eN0 eN1 er2 ep hA D hr
         clear D' pB hE hm p0
         go_wp2_with fail
         go_roundw
         case rel => exact ⟨p, r2, rfl, rfl, by first | trivial | rfl, HK.out.1, HK.out.2.2⟩
         case measure =>
          have := HK.out.2.1
          simp only [intOf]
          omega
       ·have hA' : ¬ (4294967296 : Int) ≤ (q : Int) := by omega
        by_cases hB : N1 < P
        ·have hB' : (N1 : Int) < (P : Int) := Int.ofNat_lt.2 hB
         obtain ⟨p0, D', pB⟩ := di_step D hR1 hc0 (Or.inr (by rw [← eP]; omega))
         clear hB
         rw [← ep, ← er2] at D'
         rw [← ep] at pB
         have f4 : IntKind.u64.wrap ((q : Int) - 1) = (p : Int) := by rw [IntKind.wrap_u64]; omega
         by_cases hE : 4294967296 ≤ r2
         ·have hE' : (4294967296 : Int) ≤ (r2 : Int) := by omega
          obtain ⟨hq, -⟩ := di_done D' (di_break hy0 pB hE)
          clear D' pB hE p0
          rw [hyy] at hq
          have k3 := HE.out.2.2 _ hq.symm
          obtain ⟨k4, k5⟩ := K2.out _ hq.symm
          clear hyy hy0 hy1b hc1 hc0 hU hr1 hR1 hr2 D1 D2 hup hqy hqb eP eN0 eN1 er2 ep hA D hr
          clear hq
          go_wp2_with fail
          go_ret2
          exact ⟨rfl, lay_ex w []⟩
         ·have hE' : ¬ (4294967296 : Int) ≤ (r2 : Int) := by omega
          have hm : p < q := by omega
          have HK := Lib.hid (And.intro D' (And.intro hm (Nat.lt_of_not_le hE)))
          clear hyy hy0 hy1b hc1 hc0 hU hr1 hR1 hr2 D1 D2 hup hqy hqb eP eN0 eN1 er2 ep hA D hr
          clear D' pB hE hm p0
          go_wp2_with fail
          go_roundw
          case rel => exact ⟨p, r2, rfl, rfl, by first | trivial | rfl, HK.out.1, HK.out.2.2⟩
          case measure =>
           have := HK.out.2.1
           simp only [intOf]
           omega
        ·have hB' : ¬ (N1 : Int) < (P : Int) := fun h => hB (Int.ofNat_lt.1 h)
         obtain ⟨hq, -⟩ := di_done D (by rw [← eP]; omega)
         clear hB
         rw [hyy] at hq
         have k3 := HE.out.2.2 _ hq.symm
         obtain ⟨k4, k5⟩ := K2.out _ hq.symm
         clear hyy hy0 hy1b hc1 hc0 hU hr1 hR1 hr2 D1 D2 hup hqy hqb eP eN0 eN1 er2 ep hA D hr
         clear hq
         go_wp2_with fail
         go_ret2
         exact ⟨rfl, lay_ex w []⟩
     ·have hE' : ¬ (4294967296 : Int) ≤ (r2 : Int) := by omega
      have hm : p < q := by omega
      have HK := Lib.hid (And.intro D' (And.intro hm (Nat.lt_of_not_le hE)))
      clear hyy hy0 hy1b hc1 hc0 hU hr1 hR1 hr2 D1 D2 hup hqy hqb eP eN0 eN1 er2 ep hA D hr
      clear D' pB hE hm p0
      go_wp2_with fail
      go_roundw
      case rel => exact ⟨p, r2, rfl, rfl, by first | trivial | rfl, HK.out.1, HK.out.2.2⟩
      case measure =>
       have := HK.out.2.1
       simp only [intOf]
       omega
    ·have hB' : ¬ (N1 : Int) < (P : Int) := fun h => hB (Int.ofNat_lt.1 h)
     obtain ⟨hq, -⟩ := di_done D (by rw [← eP]; omega)
     clear hB
     rw [hyy] at hq
     have k1 := HE.out.1 _ hq.symm
     have K2 := Lib.hid (HE.out.2.1 _ hq.symm)
     clear hyy hy0 hy1b hc1 hc0 hU hr1 hR1 hr2 D1 D2 hup hqy hqb eP eN0 eN1 er2 ep hA D hr
     clear hq
     go_wp2_with fail
     go_loopw [18, 16] (fun v18 v16 wr => ∃ q r : Nat, v18 = .int .u64 (q : Int) ∧ v16 = .int .u64 (r : Int) ∧ wr = lay w [] ∧ DI 4294967296 R1 y1 y0 c0 q r ∧ r < 4294967296) (fun v18 _ _ => (intOf v18).toNat)
     case atStart =>
      obtain ⟨hyy, hy0, hy1b, hc1, hc0, hU, hr1, hR1, hr2, D1, D2, hup⟩ := HX.out
      exact ⟨Q2, T2, rfl, rfl, rfl, D2, by omega⟩
     case round =>
      obtain ⟨q, r, rfl, rfl, hw, D, hr⟩ := hrel
      rw [hw]
      clear hw
      obtain ⟨hyy, hy0, hy1b, hc1, hc0, hU, hr1, hR1, hr2, D1, D2, hup⟩ := HX.out
      have hqy := Nat.mul_le_mul D.qb (Nat.le_sub_one_of_lt hy0)
      have hqb := D.qb
      obtain ⟨P, eP⟩ : ∃ P, P = q * y0 := ⟨_, rfl⟩
      obtain ⟨N0, eN0⟩ : ∃ N0, N0 = 4294967296 * r := ⟨_, rfl⟩
      obtain ⟨N1, eN1⟩ : ∃ N1, N1 = N0 + c0 := ⟨_, rfl⟩
      obtain ⟨r2, er2⟩ : ∃ r2, r2 = r + y1 := ⟨_, rfl⟩
      obtain ⟨p, ep⟩ : ∃ p, p = q - 1 := ⟨_, rfl⟩
      have f1 : IntKind.u64.wrap ((q : Int) * (y0 : Int)) = (P : Int) := by rw [Mul64.mulN, ← eP]; exact Mul64.wrapN _ (by omega)
      have f2 : IntKind.u64.wrap (4294967296 * (r : Int)) = (N0 : Int) := by rw [IntKind.wrap_u64]; omega
      have f3 : IntKind.u64.wrap ((N0 : Int) + (c0 : Int)) = (N1 : Int) := by rw [IntKind.wrap_u64]; omega
      have f5 : IntKind.u64.wrap ((r : Int) + (y1 : Int)) = (r2 : Int) := by rw [IntKind.wrap_u64]; omega
      by_cases hA : 4294967296 ≤ q
      ·have hA' : (4294967296 : Int) ≤ (q : Int) := by omega
       obtain ⟨p0, D', pB⟩ := di_step D hR1 hc0 (Or.inl hA)
       rw [← ep, ← er2] at D'
       rw [← ep] at pB
       have f4 : IntKind.u64.wrap ((q : Int) - 1) = (p : Int) := by rw [IntKind.wrap_u64]; omega
       by_cases hE : 4294967296 ≤ r2
       ·have hE' : (4294967296 : Int) ≤ (r2 : Int) := by omega
        obtain ⟨hq, -⟩ := di_done D' (di_break hy0 pB hE)
        clear D' pB hE p0
        rw [hyy] at hq
        have k3 := HE.out.2.2 _ hq.symm
        obtain ⟨k4, k5⟩ := K2.out _ hq.symm
        clear hyy hy0 hy1b hc1 hc0 hU hr1 hR1 hr2 D1 D2 hup hqy hqb eP eN0 eN1 er2 ep hA D hr
        clear hq
        go_wp2_with fail
        go_ret2
        exact ⟨rfl, lay_ex w []⟩
       ·have hE' : ¬ (4294967296 : Int) ≤ (r2 : Int) := by omega
        have hm : p < q := by omega
        have HK := Lib.hid (And.intro D' (And.intro hm (Nat.lt_of_not_le hE)))
        clear hyy hy0 hy1b hc1 hc0 hU hr1 hR1 hr2 D1 D2 hup hqy hqb eP eN0 eN1 er2 ep hA D hr
        clear D' pB hE hm p0
        go_wp2_with fail
        go_roundw
        case rel => exact ⟨p, r2, rfl, rfl, by first | trivial | rfl, HK.out.1, HK.out.2.2⟩
        case measure =>
         have := HK.out.2.1
         simp only [intOf]
         omega
      ·have hA' : ¬ (4294967296 : Int) ≤ (q : Int) := by omega
       by_cases hB : N1 < P
       ·have hB' : (N1 : Int) < (P : Int) := Int.ofNat_lt.2 hB
        obtain ⟨p0, D', pB⟩ := di_step D hR1 hc0 (Or.inr (by rw [← eP]; omega))
        clear hB
        rw [← ep, ← er2] at D'
        rw [← ep] at pB
        have f4 : IntKind.u64.wrap ((q : Int) - 1) = (p : Int) := by rw [IntKind.wrap_u64]; omega
        by_cases hE : 4294967296 ≤ r2
        ·have hE' : (4294967296 : Int) ≤ (r2 : Int) := by omega
         obtain ⟨hq, -⟩ := di_done D' (di_break hy0 pB hE)
         clear D' pB hE p0
         rw [hyy] at hq
         have k3 := HE.out.2.2 _ hq.symm
         obtain ⟨k4, k5⟩ := K2.out _ hq.symm
         clear hyy hy0 hy1b hc1 hc0 hU hr1 hR1 hr2 D1 D2 hup hqy hqb eP eN0 eN1 er2 ep hA D hr
         clear hq
         go_wp2_with fail
         go_ret2
         exact ⟨rfl, lay_ex w []⟩
        ·have hE' : ¬ (4294967296 : Int) ≤ (r2 : Int) := by omega
         have hm : p < q := by omega
         have HK := Lib.hid (And.intro D' (And.intro hm (Nat.lt_of_not_le hE)))
         clear hyy hy0 hy1b hc1 hc0 hU hr1 hR1 hr2 D1 D2 hup hqy hqb eP eN0 eN1 er2 ep hA D hr
         clear D' pB hE hm p0
         go_wp2_with fail
         go_roundw
         case rel => exact ⟨p, r2, rfl, rfl, by first | trivial | rfl, HK.out.1, HK.out.2.2⟩
         case measure =>
          have := HK.out.2.1
          simp only [intOf]
          omega
       ·have hB' : ¬ (N1 : Int) < (P : Int) := fun h => hB (Int.ofNat_lt.1 h)
        obtain ⟨hq, -⟩ := di_done D (by rw [← eP]; omega)
        clear hB
        rw [hyy] at hq
        have k3 := HE.out.2.2 _ hq.symm
        obtain ⟨k4, k5⟩ := K2.out _ hq.symm
        clear hyy hy0 hy1b hc1 hc0 hU hr1 hR1 hr2 D1 D2 hup hqy hqb eP eN0 eN1 er2 ep hA D hr
        clear hq
        go_wp2_with fail
        go_ret2
        exact ⟨rfl, lay_ex w []⟩
theorem div64 (hi lo y : Nat) (hhi : hi < y) (hlo : lo < 18446744073709551616) (hy : y < 18446744073709551616) (w : World) :
  Calls Tryz.prog 307 #[.int .u64 (hi : Int), .int .u64 (lo : Int), .int .u64 (y : Int)] w fun e w' =>
   e = .returned (.tuple #[.int .u64 (((hi * 18446744073709551616 + lo) / y : Nat) : Int), .int .u64 (((hi * 18446744073709551616 + lo) % y : Nat) : Int)]) ∧ ∃ d, w' = bw w d :=
 div64' hi lo y _ _ rfl rfl hhi hlo hy w
theorem valB_snoc {B x : Nat} : ∀ {l : List Nat}, valB B (l ++ [x]) = valB B l * B + x
 | [] => by simp [valB]
 | y :: l => by
  have ih := valB_snoc (B := B) (x := x) (l := l)
  simp only [List.cons_append, valB, ih, List.length_append, List.length_cons, List.length_nil, Nat.pow_succ]
  grind
theorem valB_take {B : Nat} {l : List Nat} {k : Nat} (h : k < l.length) : valB B (l.take (k + 1)) = valB B (l.take k) * B + nt l k := by
 rw [List.take_add_one, nt_lt h]
 exact valB_snoc
theorem take_set {l : List Nat} {i x : Nat} : (l.set i x).take i = l.take i := List.take_set_of_le (Nat.le_refl i)
theorem div_word {B t x d : Nat} (ht : t < d) (hx : x < B) : (t * B + x) / d < B := by
 rw [Nat.div_lt_iff_lt_mul (by omega)]
 have h1 : (t + 1) * B ≤ d * B := Nat.mul_le_mul_right _ ht
 rw [Nat.mul_comm B d]
 rw [Nat.succ_mul] at h1
 generalize d * B = D at *
 generalize t * B = T at *
 omega
structure DivI (a : List Nat) (t0 d : Nat) (r : List Nat) (k t : Nat) : Prop where
 wd : Wd 4 r
 old : ∀ j, k ≤ j → nt r j = nt a j
 td : t < d
 eq : t0 * 18446744073709551616 ^ k + valB 18446744073709551616 (a.take k) = valB 18446744073709551616 (r.take k) * d + t
theorem DivI.start {a : List Nat} {t0 d : Nat} (ha : Wd 4 a) (h : t0 < d) : DivI a t0 d a 0 t0 := ⟨ha, fun _ _ => rfl, h, by simp [valB]⟩
theorem DivI.step {a r : List Nat} {t0 d k t : Nat} (ha : Wd 4 a) (h : DivI a t0 d r k t) (hk : k < 4) : (t * 18446744073709551616 + nt r k) / d < 18446744073709551616 ∧ DivI a t0 d (r.set k ((t * 18446744073709551616 + nt r k) / d)) (k + 1) ((t * 18446744073709551616 + nt r k) % d) := by
 have hd : 0 < d := Nat.lt_of_le_of_lt (Nat.zero_le _) h.td
 have hx := h.wd.lt k
 have hq := div_word h.td hx
 refine ⟨hq, h.wd.set hk hq, fun j hj => ?_, Nat.mod_lt _ hd, ?_⟩
 ·rw [nt_set (by rw [h.wd.len]; exact hk), if_neg (by omega)]
  exact h.old j (by omega)
 ·rw [valB_take (by rw [ha.len]; exact hk), valB_take (by rw [List.length_set, h.wd.len]; exact hk), take_set, nt_set (by rw [h.wd.len]; exact hk), if_pos rfl, ← h.old k (Nat.le_refl k), Nat.pow_succ]
  have he := h.eq
  have hm := Nat.div_add_mod (t * 18446744073709551616 + nt r k) d
  generalize (t * 18446744073709551616 + nt r k) / d = q at *
  generalize (t * 18446744073709551616 + nt r k) % d = m at *
  generalize 18446744073709551616 ^ k = P at *
  generalize (18446744073709551616 : Nat) = B at *
  generalize valB B (a.take k) = A at *
  generalize valB B (r.take k) = R at *
  have e2 : (t0 * P + A) * B = (R * d + t) * B := by rw [he]
  grind
theorem DivI.done {a r : List Nat} {t0 d t : Nat} (ha : Wd 4 a) (h : DivI a t0 d r 4 t) : val4 r = (t0 * 18446744073709551616 ^ 4 + val4 a) / d := by
 have he := h.eq
 rw [List.take_of_length_le (by rw [ha.len]; exact Nat.le_refl 4), List.take_of_length_le (by rw [h.wd.len]; exact Nat.le_refl 4)] at he
 change t0 * 18446744073709551616 ^ 4 + val4 a = val4 r * d + t at he
 rw [he]
 have htd := h.td
 generalize val4 r = R at *
 rw [Nat.add_comm, Nat.add_mul_div_right _ _ (by omega), Nat.div_eq_of_lt htd, Nat.zero_add]

set_option maxHeartbeats 1000000 in
set_option maxRecDepth 100000 in
theorem nm_div (a : List Nat) (t0 dv : Nat) (ha : Wd 4 a) (ht : t0 < dv) (hd : dv < 18446744073709551616) (w : World) :
  Calls Tryz.prog 343 #[nuV a, .int .u64 (t0 : Int), .int .u64 (dv : Int)] w fun e w' => ∃ r d, e = .returned (nuV r) ∧ w' = bw w d ∧ Wd 4 r ∧ val4 r = (t0 * 18446744073709551616 ^ 4 + val4 a) / dv := by
 refine lay_start ?_
 unfold nuV
 go_enter Tryz.func343, Tryz.ntmps343
 go_wp2_with fail
 rw [← nuA_four ha.len]
 go_loopw [1, 8] (fun v1 v8 wr => ∃ (k t : Nat) (r : List Nat) (d : Ext), k ≤ 4 ∧ v1 = .int .u64 (t : Int) ∧ v8 = .int .i64 (k : Int) ∧ wr = lay w [.inr d, .inl (.cells #[.int .u64 0, .int .u64 0, .int .u64 0, .int .u64 0] 355 (0, 0)), .inl (.cells (nuA r) 355 (0, 0))] ∧ DivI a t0 dv r k t) (fun _ v8 _ => 4 - (intOf v8).toNat)
 case atStart => exact ⟨0, t0, a, noExt _, by omega, rfl, rfl, (bw_noExt _).symm, DivI.start ha ht⟩
 case round =>
  obtain ⟨k, t, r, d, hk, rfl, rfl, rfl, hS⟩ := hrel
  have HS := Lib.hid hS
  by_cases hk4 : k = 4
  ·subst hk4
   have g0 := nuA_get (l := r) (i := 0) (by rw [hS.wd.len]; decide)
   have g1 := nuA_get (l := r) (i := 1) (by rw [hS.wd.len]; decide)
   have g2 := nuA_get (l := r) (i := 2) (by rw [hS.wd.len]; decide)
   have g3 := nuA_get (l := r) (i := 3) (by rw [hS.wd.len]; decide)
   clear hS
   go_wp2_with fail
   obtain ⟨dz, ez⟩ := lay_all w [.inr d, .inl (.cells #[.int .u64 (nt r 0 : Int), .int .u64 (nt r 1 : Int), .int .u64 (nt r 2 : Int), .int .u64 (nt r 3 : Int)] 355 (0, 0)), .inl (.cells (nuA r) 355 (0, 0))]
   exact bodyPost_ret (v := .agg #[.int .u64 (nt r 0 : Int), .int .u64 (nt r 1 : Int), .int .u64 (nt r 2 : Int), .int .u64 (nt r 3 : Int)]) (by simp [results, Tryz.results343, go_sem]) rfl ⟨r, dz, rfl, ez, HS.out.wd, HS.out.done ha⟩
  ·have hi : k < 4 := by omega
   have x0 : (0 : Int) ≤ (k : Int) := by omega
   have x1 : (k : Int) < 4 := by omega
   have x2 : (k : Int).toNat = k := by omega
   obtain ⟨hq, hN⟩ := hS.step ha hi
   obtain ⟨X, hX⟩ : ∃ X, nt r k = X := ⟨_, rfl⟩
   have g0 := nuA_get (l := r) (i := k) (by rw [hS.wd.len]; exact hi)
   have HC := Lib.hid (fun W => div64 t X dv hS.td (by rw [← hX]; exact hS.wd.lt k) hd W)
   rw [hX] at g0 hN hq
   obtain ⟨Q, hQ⟩ : ∃ Q, (t * 18446744073709551616 + X) / dv = Q := ⟨_, rfl⟩
   obtain ⟨T, hT⟩ : ∃ T, (t * 18446744073709551616 + X) % dv = T := ⟨_, rfl⟩
   rw [hQ, hT] at hN HC
   have HN := Lib.hid hN
   clear hS hN hQ hT hX hq
   go_wp2_with (go_at_call 307; refine (HC.out _).mono ?_; rintro e w' ⟨rfl, d1, rfl⟩)
   rw [nuA_set]
   obtain ⟨d3, e3⟩ := lay_fold w [.inr d1, .inr d] [.inl (.cells #[.int .u64 0, .int .u64 0, .int .u64 0, .int .u64 0] 355 (0, 0)), .inl (.cells (nuA (r.set k Q)) 355 (0, 0))]
   change lay w [.inr d1, .inr d, .inl (.cells #[.int .u64 0, .int .u64 0, .int .u64 0, .int .u64 0] 355 (0, 0)), .inl (.cells (nuA (r.set k Q)) 355 (0, 0))] = _ at e3
   rw [e3]
   clear e3
   go_roundw
   case rel => exact ⟨k + 1, T, r.set k Q, d3, by omega, rfl, by first | rfl | exact congrArg (Value.int .i64) (by omega), rfl, HN.out⟩
   case measure => simp [intOf]; omega
end Go.Proofs.YtcbicpbbjbkiaaaGreatDoor
namespace Go.Proofs.YtcbicpbbjbkiaaaGreatDoor

theorem rmul {a b c d : Rat} (h1 : 0 ≤ a) (h2 : a ≤ b) (h3 : 0 ≤ c) (h4 : c ≤ d) : a * c ≤ b * d :=
 Rat.le_trans (Rat.mul_le_mul_of_nonneg_left h4 h1) (Rat.mul_le_mul_of_nonneg_right h2 (Rat.le_trans h3 h4))
theorem rmul0 {a c : Rat} (h1 : 0 ≤ a) (h3 : 0 ≤ c) : 0 ≤ a * c := Rat.mul_nonneg h1 h3
def Nr (a b e : Rat) : Prop := a ≤ b + e ∧ b ≤ a + e
theorem Nr.symm {a b e : Rat} (h : Nr a b e) : Nr b a e := ⟨h.2, h.1⟩
theorem Nr.trans {a b c e f : Rat} (h : Nr a b e) (g : Nr b c f) : Nr a c (e + f) := by
 obtain ⟨h1, h2⟩ := h; obtain ⟨g1, g2⟩ := g; constructor <;> grind
theorem Nr.le {a b e f : Rat} (h : Nr a b e) (g : e ≤ f) : Nr a b f := by
 obtain ⟨h1, h2⟩ := h; constructor <;> grind
theorem Nr.add {a b c d e f : Rat} (h : Nr a b e) (g : Nr c d f) : Nr (a + c) (b + d) (e + f) := by
 obtain ⟨h1, h2⟩ := h; obtain ⟨g1, g2⟩ := g; constructor <;> grind
theorem Nr.sub {a b c d e f : Rat} (h : Nr a b e) (g : Nr c d f) : Nr (a - c) (b - d) (e + f) := by
 obtain ⟨h1, h2⟩ := h; obtain ⟨g1, g2⟩ := g; constructor <;> grind
theorem Nr.refl (a : Rat) : Nr a a 0 := by constructor <;> grind
theorem Nr.mulc {a b e c m : Rat} (h : Nr a b e) (h0 : 0 ≤ c) (h1 : c ≤ m) (he : 0 ≤ e) : Nr (c * a) (c * b) (m * e) := by
 obtain ⟨h2, h3⟩ := h
 have g1 := Rat.mul_le_mul_of_nonneg_left h2 h0
 have g2 := Rat.mul_le_mul_of_nonneg_left h3 h0
 have g3 := Rat.mul_le_mul_of_nonneg_right h1 he
 constructor <;> grind
theorem Nr.pos {a b e : Rat} (h : Nr a b e) : 0 ≤ e := by obtain ⟨h1, h2⟩ := h; grind
theorem Nr.mul {a b c d e f m n : Rat} (h : Nr a b e) (g : Nr c d f) (a0 : 0 ≤ a) (a1 : a ≤ m) (d0 : 0 ≤ d) (d1 : d ≤ n) : Nr (a * c) (b * d) (m * f + n * e) := by
 have h1 := (g.mulc a0 a1 g.pos)
 have h2 := (h.mulc d0 d1 h.pos)
 have := h1.trans (show Nr (a * d) (b * d) (n * e) by rw [Rat.mul_comm a, Rat.mul_comm b]; exact h2)
 exact this

def tay (y : Rat) : Nat → Nat → Rat
 | _, 0 => 0
 | d, m + 1 => y / ((d : Rat) * (d + 1)) * (1 - tay y (d + 2) m)
theorem two_le {d : Nat} (h : 1 ≤ d) : (2 : Rat) ≤ (d : Rat) * (d + 1) := by
 have h1 : (1 : Rat) ≤ (d : Rat) := by exact_mod_cast h
 have := rmul (show (0 : Rat) ≤ 1 by decide) h1 (show (0 : Rat) ≤ 2 by decide) (show (2 : Rat) ≤ (d : Rat) + 1 by grind)
 grind
theorem div_ge {y k : Rat} (h0 : 0 ≤ y) (hk : 2 ≤ k) : 0 ≤ y / k ∧ y / k ≤ y / 2 ∧ y / k * k = y := by
 have hk0 : (0 : Rat) < k := by grind
 have e : y / k * k = y := Rat.div_mul_cancel (by grind)
 have hn : 0 ≤ y / k := by
  rw [Rat.div_def]
  exact rmul0 h0 (Rat.le_of_lt (Rat.inv_pos.2 hk0))
 refine ⟨hn, ?_, e⟩
 have := Rat.mul_le_mul_of_nonneg_left hk hn
 grind
theorem tay_in {y : Rat} (h0 : 0 ≤ y) (h1 : y ≤ 1) : ∀ {m d : Nat}, 1 ≤ d → 0 ≤ tay y d m ∧ tay y d m ≤ y / 2
 | 0, d, hd => by unfold tay; constructor <;> grind
 | m + 1, d, hd => by
  obtain ⟨a, b⟩ := tay_in h0 h1 (m := m) (d := d + 2) (by omega)
  obtain ⟨q0, q1, -⟩ := div_ge h0 (two_le hd)
  unfold tay
  have h2 : (0 : Rat) ≤ 1 - tay y (d + 2) m := by grind
  refine ⟨rmul0 q0 h2, ?_⟩
  have := rmul q0 q1 h2 (show 1 - tay y (d + 2) m ≤ 1 by grind)
  grind
def facT : Nat → Nat → Nat
 | _, 0 => 1
 | d, m + 1 => d * (d + 1) * facT (d + 2) m
theorem facT_pos : ∀ {m d : Nat}, 1 ≤ d → 1 ≤ facT d m
 | 0, _, _ => Nat.le_refl _
 | m + 1, d, hd => by
  unfold facT
  have := facT_pos (m := m) (d := d + 2) (by omega)
  exact Nat.mul_pos (Nat.mul_pos (by omega) (by omega)) this
theorem tay_more {y : Rat} (h0 : 0 ≤ y) (h1 : y ≤ 1) (j : Nat) : ∀ {m d : Nat}, 1 ≤ d → Nr (tay y d (m + j)) (tay y d m) (1 / (2 * (facT d m : Rat)))
 | 0, d, hd => by
  obtain ⟨a, b⟩ := tay_in h0 h1 (m := j) hd
  rw [Nat.zero_add]
  show Nr _ 0 (1 / (2 * ((1 : Nat) : Rat)))
  have : (1 : Rat) / (2 * ((1 : Nat) : Rat)) = 1 / 2 := by simp
  rw [this]
  constructor <;> grind
 | m + 1, d, hd => by
  have ih := tay_more h0 h1 j (m := m) (d := d + 2) (by omega)
  obtain ⟨q0, q1, q2⟩ := div_ge h0 (two_le hd)
  have hf := facT_pos (m := m) (d := d + 2) (by omega)
  have hf2 : (1 : Rat) ≤ (facT (d + 2) m : Rat) := by exact_mod_cast hf
  obtain ⟨r0, r1, r2⟩ := div_ge (show (0 : Rat) ≤ 1 by decide) (two_le hd)
  rw [show m + 1 + j = m + j + 1 by omega]
  unfold tay facT
  have h2 : Nr (1 - tay y (d + 2) (m + j)) (1 - tay y (d + 2) m) (1 / (2 * (facT (d + 2) m : Rat))) := by
   have := (Nr.refl 1).sub ih
   exact this.le (by grind)
  have hy : y / ((d : Rat) * (d + 1)) ≤ 1 / ((d : Rat) * (d + 1)) := by
   rw [Rat.div_def, Rat.div_def]
   exact Rat.mul_le_mul_of_nonneg_right h1 (by rw [← Rat.one_mul (_)⁻¹, ← Rat.div_def]; exact r0)
  have h3 := h2.mulc q0 hy h2.pos
  refine h3.le ?_
  have e1 : ((d * (d + 1) * facT (d + 2) m : Nat) : Rat) = (d : Rat) * (d + 1) * (facT (d + 2) m : Rat) := by push_cast; rfl
  rw [e1]
  have := two_le hd
  grind
theorem tay_arg {y z e : Rat} (h0 : 0 ≤ y) (h1 : y ≤ 1) (z0 : 0 ≤ z) (z1 : z ≤ 1) (h : Nr y z e) : ∀ {m d : Nat}, 1 ≤ d → Nr (tay y d m) (tay z d m) e
 | 0, d, hd => by
  have := h.pos
  unfold tay; constructor <;> grind
 | m + 1, d, hd => by
  have ih := tay_arg h0 h1 z0 z1 h (m := m) (d := d + 2) (by omega)
  obtain ⟨a, b⟩ := tay_in z0 z1 (m := m) (d := d + 2) (by omega)
  obtain ⟨q0, q1, q2⟩ := div_ge h0 (two_le hd)
  obtain ⟨r0, r1, r2⟩ := div_ge (show (0 : Rat) ≤ 1 by decide) (two_le hd)
  have he := h.pos
  unfold tay
  have hq : Nr (y / ((d : Rat) * (d + 1))) (z / ((d : Rat) * (d + 1))) (e / 2) := by
   have := h.mulc r0 r1 he
   rw [Rat.div_def, Rat.div_def, Rat.mul_comm y, Rat.mul_comm z]
   rw [Rat.div_def, Rat.one_mul] at this
   exact this.le (by grind)
  have h2 : Nr (1 - tay y (d + 2) m) (1 - tay z (d + 2) m) e := ((Nr.refl 1).sub ih).le (by grind)
  have := hq.mul h2 q0 q1 (show 0 ≤ 1 - tay z (d + 2) m by grind) (show 1 - tay z (d + 2) m ≤ 1 by grind)
  refine this.le ?_
  have := Rat.mul_le_mul_of_nonneg_right h1 he
  grind
def evI : List Int → Int → Int
 | [], _ => 0
 | a :: l, x => a + x * evI l x
def scI (k : Int) : List Int → List Int
 | [] => []
 | a :: l => k * a :: scI k l
def adI : List Int → List Int → List Int
 | [], m => m
 | a :: l, [] => a :: l
 | a :: l, b :: m => (a + b) :: adI l m
def shI : List Int → List Int
 | [] => []
 | a :: l => adI (a :: shI l) (shI l)
def inI : List Int → List Int
 | [] => []
 | a :: l => a :: 0 :: inI l
def abI : List Int → Nat → Nat
 | [], _ => 0
 | a :: l, N => a.natAbs + N * abI l N
theorem evI_sc (k x : Int) : ∀ l, evI (scI k l) x = k * evI l x
 | [] => by simp [scI, evI]
 | a :: l => by
  have := evI_sc k x l
  simp only [scI, evI, this]; grind
theorem evI_ad (x : Int) : ∀ l m, evI (adI l m) x = evI l x + evI m x
 | [], m => by simp [adI, evI]
 | a :: l, [] => by simp [adI, evI]
 | a :: l, b :: m => by
  have := evI_ad x l m
  simp only [adI, evI, this]; grind
theorem evI_sh (x : Int) : ∀ l, evI (shI l) x = evI l (x + 1)
 | [] => by simp [shI, evI]
 | a :: l => by
  have := evI_sh x l
  simp only [shI, evI, evI_ad, this]; grind
theorem evI_in (x : Int) : ∀ l, evI (inI l) x = evI l (x * x)
 | [] => by simp [inI, evI]
 | a :: l => by
  have := evI_in x l
  simp only [inI, evI, this]; grind
theorem evI_ab {N : Nat} {x : Int} (h : x.natAbs ≤ N) : ∀ l, (evI l x).natAbs ≤ abI l N
 | [] => by simp [evI, abI]
 | a :: l => by
  have ih := evI_ab h l
  have h1 : (x * evI l x).natAbs ≤ N * abI l N := by rw [Int.natAbs_mul]; exact Nat.mul_le_mul h ih
  simp only [evI, abI]
  omega
def dnT (b : Nat) : Nat → Nat → Nat
 | _, 0 => 1
 | d, m + 1 => b * (d * (d + 1)) * dnT b (d + 2) m
def liT (a b : Nat) : Nat → Nat → List Int
 | _, 0 => []
 | d, m + 1 => 0 :: scI a (adI [(dnT b (d + 2) m : Int)] (scI (-1) (liT a b (d + 2) m)))
theorem liT_ok {a b : Nat} (hb : b ≠ 0) {z : Int} : ∀ {m d : Nat}, 1 ≤ d → tay ((z : Rat) * (a : Rat) / (b : Rat)) d m * (dnT b d m : Rat) = ((evI (liT a b d m) z : Int) : Rat)
 | 0, d, hd => by unfold tay liT; simp [evI]
 | m + 1, d, hd => by
  have ih := liT_ok (a := a) hb (z := z) (m := m) (d := d + 2) (by omega)
  have h2 := two_le hd
  have hb2 : (b : Rat) ≠ 0 := by exact_mod_cast hb
  simp only [tay, liT, dnT, evI, evI_sc, evI_ad]
  push_cast
  rw [← ih]
  generalize tay _ (d + 2) m = T
  generalize (dnT b (d + 2) m : Rat) = F
  grind
def piN : Nat := 363771576891766324280234942777729862653393377328392429958772151117938894466185
def piD : Nat := 115792089237316195423570985008687907853269984665640564039457584007913129639936 * 10800000
def xi (n : Nat) : Rat := (n : Rat) * ((piN : Rat) / (piD : Rat))
def sinT (n : Nat) : Rat := xi n * (1 - tay (xi n * xi n) 2 14)
def cosT (n : Nat) : Rat := 1 - tay (xi n * xi n) 1 14
def litA : List Int := adI [(dnT (piD * piD) 2 14 : Int)] (scI (-1) (liT (piN * piN) (piD * piD) 2 14))
def litB : List Int := adI [(dnT (piD * piD) 1 14 : Int)] (scI (-1) (liT (piN * piN) (piD * piD) 1 14))
def facW : Nat := piD * dnT (piD * piD) 2 14 * dnT (piD * piD) 1 14
def lisS : List Int := scI (dnT (piD * piD) 1 14 : Int) (0 :: inI (scI (piN : Int) litA))
def lisC : List Int := scI ((piD * dnT (piD * piD) 2 14 : Nat) : Int) (inI litB)
theorem piD_ne : piD ≠ 0 := by decide +kernel
section
variable {a b : Nat}
theorem xi_sq (hb : b ≠ 0) (n : Nat) : (n : Rat) * ((a : Rat) / (b : Rat)) * ((n : Rat) * ((a : Rat) / (b : Rat))) = (((n * n : Nat) : Int) : Rat) * ((a * a : Nat) : Rat) / ((b * b : Nat) : Rat) := by
 have hb2 : (b : Rat) ≠ 0 := by exact_mod_cast hb
 push_cast
 grind
theorem lis_ok (hb : b ≠ 0) (n d m : Nat) (hd : 1 ≤ d) : (1 - tay ((n : Rat) * ((a : Rat) / (b : Rat)) * ((n : Rat) * ((a : Rat) / (b : Rat)))) d m) * (dnT (b * b) d m : Rat) = ((evI (adI [(dnT (b * b) d m : Int)] (scI (-1) (liT (a * a) (b * b) d m))) ((n * n : Nat) : Int) : Int) : Rat) := by
 have h := liT_ok (a := a * a) (b := b * b) (Nat.mul_ne_zero hb hb) (z := ((n * n : Nat) : Int)) (m := m) hd
 rw [xi_sq hb n, evI_ad, evI_sc]
 generalize tay _ d m = T at *
 simp only [evI]
 push_cast at h ⊢
 rw [← h]
 grind
end
theorem lisS_ok (n : Nat) : sinT n * (facW : Rat) = ((evI lisS (n : Int) : Int) : Rat) := by
 have h := lis_ok (a := piN) piD_ne n 2 14 (by decide)
 have hp : (piD : Rat) ≠ 0 := by exact_mod_cast piD_ne
 unfold sinT lisS facW xi litA
 simp only [evI_sc, evI, evI_in]
 rw [show ((n : Int) * (n : Int)) = ((n * n : Nat) : Int) by push_cast; rfl]
 push_cast at h ⊢
 rw [← h]
 generalize tay _ 2 14 = T
 generalize (dnT _ 2 14 : Rat) = F
 generalize (dnT _ 1 14 : Rat) = G
 generalize (piN : Rat) = A at *
 generalize (piD : Rat) = B at *
 grind
theorem lisC_ok (n : Nat) : cosT n * (facW : Rat) = ((evI lisC (n : Int) : Int) : Rat) := by
 have h := lis_ok (a := piN) piD_ne n 1 14 (by decide)
 unfold cosT lisC facW xi litB
 simp only [evI_sc, evI_in]
 rw [show ((n : Int) * (n : Int)) = ((n * n : Nat) : Int) by push_cast; rfl]
 push_cast at h ⊢
 rw [← h]
 generalize tay _ 1 14 = T
 generalize (dnT _ 2 14 : Rat) = F
 generalize (dnT _ 1 14 : Rat) = G
 generalize (piD : Rat) = B at *
 grind
theorem nr_of_int {a b W E : Rat} (hW : 0 < W) {x : Int} {M : Nat} (h : (a - b) * W = (x : Rat)) (hx : x.natAbs ≤ M) (hM : (M : Rat) ≤ E * W) : Nr a b E := by
 have h1 : (x : Rat) ≤ (M : Rat) := by
  have : x ≤ (M : Int) := by omega
  exact_mod_cast this
 have h2 : -(x : Rat) ≤ (M : Rat) := by
  have : -x ≤ (M : Int) := by omega
  exact_mod_cast this
 constructor
 ·refine Rat.le_of_mul_le_mul_right (c := W) ?_ hW
  grind
 ·refine Rat.le_of_mul_le_mul_right (c := W) ?_ hW
  grind
def stpS : List Int := adI (scI (facW : Int) (shI lisS)) (adI (scI (-(evI lisC 1)) lisS) (scI (-(evI lisS 1)) lisC))
def stpC : List Int := adI (scI (facW : Int) (shI lisC)) (adI (scI (-(evI lisC 1)) lisC) (scI (evI lisS 1) lisS))
theorem stpS_ab : abI stpS 2700000 * 1267650600228229401496703205376 ≤ facW * facW := by decide +kernel
theorem stpC_ab : abI stpC 2700000 * 1267650600228229401496703205376 ≤ facW * facW := by decide +kernel
theorem facW_pos : 0 < facW := by decide +kernel
theorem midS_ab : (evI lisS 2700000 - evI lisC 2700000).natAbs * 1267650600228229401496703205376 ≤ facW := by decide +kernel
def eps : Rat := 1 / 1267650600228229401496703205376
theorem eps_of {M W : Nat} (h : M * 1267650600228229401496703205376 ≤ W) : (M : Rat) ≤ eps * (W : Rat) := by
 have : (M : Rat) * 1267650600228229401496703205376 ≤ (W : Rat) := by exact_mod_cast h
 unfold eps
 grind
theorem facW_rat : (0 : Rat) < (facW : Rat) := by exact_mod_cast facW_pos
theorem sin_step {n : Nat} (h : n ≤ 2700000) : Nr (sinT (n + 1)) (sinT n * cosT 1 + cosT n * sinT 1) eps := by
 have h1 := lisS_ok (n + 1)
 have h2 := lisS_ok n
 have h3 := lisC_ok n
 have h4 := lisS_ok 1
 have h5 := lisC_ok 1
 have hb := Nat.le_trans (Nat.mul_le_mul_right _ (evI_ab (x := (n : Int)) (N := 2700000) (by omega) stpS)) stpS_ab
 have hW := facW_rat
 refine nr_of_int (W := (facW : Rat) * facW) (x := evI stpS (n : Int)) (Rat.mul_pos hW hW) ?_ (Nat.le_refl _) (by have := eps_of hb; push_cast at this; exact this)
 unfold stpS
 simp only [evI_ad, evI_sc, evI_sh]
 push_cast at h1 h2 h3 h4 h5 ⊢
 rw [← h1, ← h2, ← h3, ← h4, ← h5]
 grind
theorem cos_step {n : Nat} (h : n ≤ 2700000) : Nr (cosT (n + 1)) (cosT n * cosT 1 - sinT n * sinT 1) eps := by
 have h1 := lisC_ok (n + 1)
 have h2 := lisS_ok n
 have h3 := lisC_ok n
 have h4 := lisS_ok 1
 have h5 := lisC_ok 1
 have hb := Nat.le_trans (Nat.mul_le_mul_right _ (evI_ab (x := (n : Int)) (N := 2700000) (by omega) stpC)) stpC_ab
 have hW := facW_rat
 refine nr_of_int (W := (facW : Rat) * facW) (x := evI stpC (n : Int)) (Rat.mul_pos hW hW) ?_ (Nat.le_refl _) (by have := eps_of hb; push_cast at this; exact this)
 unfold stpC
 simp only [evI_ad, evI_sc, evI_sh]
 push_cast at h1 h2 h3 h4 h5 ⊢
 rw [← h1, ← h2, ← h3, ← h4, ← h5]
 grind
theorem sin_mid : Nr (sinT 2700000) (cosT 2700000) eps := by
 have h2 : sinT 2700000 * (facW : Rat) = ((evI lisS 2700000 : Int) : Rat) := lisS_ok 2700000
 have h3 : cosT 2700000 * (facW : Rat) = ((evI lisC 2700000 : Int) : Rat) := lisC_ok 2700000
 refine nr_of_int (W := (facW : Rat)) (x := evI lisS 2700000 - evI lisC 2700000) facW_rat ?_ (Nat.le_refl _) (eps_of midS_ab)
 rw [show (sinT 2700000 - cosT 2700000) * (facW : Rat) = sinT 2700000 * (facW : Rat) - cosT 2700000 * (facW : Rat) by grind, h2, h3]
 generalize evI lisS 2700000 = u
 generalize evI lisC 2700000 = v
 push_cast
 rfl
end Go.Proofs.YtcbicpbbjbkiaaaGreatDoor
namespace Go.Proofs.YtcbicpbbjbkiaaaGreatDoor
open Go.RowKit

def piL : List Nat := [2611923443488327891, 1376283091369227076, 11820040416388919760, 589684135938649225]
theorem piL_wd : Wd 4 piL := ⟨rfl, fun i => by
 unfold piL nt
 match i with
 | 0 => decide
 | 1 => decide
 | 2 => decide
 | 3 => decide
 | i + 4 => simp⟩
structure MulI (p : List Nat) (n : Nat) (r : List Nat) (k t : Nat) : Prop where
 wd : Wd 4 r
 old : ∀ j, j < k → nt r j = nt p j
 tn : t ≤ n
 eq : valB 18446744073709551616 (r.drop k) + t * 18446744073709551616 ^ (4 - k) = n * valB 18446744073709551616 (p.drop k)
theorem MulI.start {p : List Nat} {n : Nat} (hp : Wd 4 p) : MulI p n p 4 0 := ⟨hp, fun _ _ => rfl, Nat.zero_le _, by
 rw [List.drop_eq_nil_of_le (by rw [hp.len]; exact Nat.le_refl 4)]
 simp [valB]⟩
theorem mul_word {B x n t : Nat} (hx : x < B) (ht : t ≤ n) (hn : n < B) : ∃ hi lo s c : Nat, lo < B ∧ s < B ∧ c ≤ 1 ∧ hi + c < B ∧ x * n / B = hi ∧ x * n % B = lo ∧ (lo + t + 0) % B = s ∧ (lo + t + 0) / B = c ∧ s + (hi + c) * B = x * n + t ∧ hi + c ≤ n := by
 have hB : 0 < B := by omega
 have h1 := Nat.div_add_mod (x * n) B
 have h2 := Nat.mod_lt (x * n) hB
 obtain ⟨s, c, hs, hc, e1, e2, e3⟩ := add_word (x := x * n % B) (y := t) (c := 0) h2 (by omega) (by omega)
 have e4 : s + (x * n / B + c) * B = x * n + t := by
  rw [Nat.add_mul, Nat.mul_comm (x * n / B) B]
  omega
 have hle : x * n / B + c ≤ n := by
  have h5 : (x * n / B + c) * B ≤ x * n + t := by omega
  have h6 : (x + 1) * n ≤ B * n := Nat.mul_le_mul_right _ hx
  rw [Nat.succ_mul] at h6
  have h7 : (x * n / B + c) * B ≤ n * B := by rw [Nat.mul_comm n B]; omega
  exact Nat.le_of_mul_le_mul_right h7 hB
 exact ⟨_, _, s, c, h2, hs, hc, by omega, rfl, rfl, e1, e2, e4, hle⟩
theorem MulI.step {p r : List Nat} {n i t s t' : Nat} (h : MulI p n r (i + 1) t) (hp : Wd 4 p) (hi : i < 4) (hs : s < 18446744073709551616) (ht : t' ≤ n) (e : s + t' * 18446744073709551616 = nt r i * n + t) : MulI p n (r.set i s) i t' := by
 refine ⟨h.wd.set hi hs, fun j hj => by rw [nt_set (by rw [h.wd.len]; exact hi), if_neg (by omega)]; exact h.old j (by omega), ht, ?_⟩
 have he := h.eq
 rw [h.old i (by omega)] at e
 rw [valB_drop (l := r.set i s) (by rw [List.length_set, h.wd.len]; exact hi), valB_drop (l := p) (by rw [hp.len]; exact hi), drop_set, nt_set (by rw [h.wd.len]; exact hi), if_pos rfl, List.length_set, h.wd.len, hp.len]
 rw [show 4 - (i + 1) = 4 - i - 1 by omega] at he
 have hpw : 18446744073709551616 ^ (4 - i) = 18446744073709551616 ^ (4 - i - 1) * 18446744073709551616 := by rw [← Nat.pow_succ]; congr 1; omega
 rw [hpw]
 generalize 18446744073709551616 ^ (4 - i - 1) = P at *
 generalize (18446744073709551616 : Nat) = B at *
 have e2 : (s + t' * B) * P = (nt p i * n + t) * P := by rw [e]
 grind
theorem MulI.done {p r : List Nat} {n t : Nat} (h : MulI p n r 0 t) : val4 r + t * 18446744073709551616 ^ 4 = n * val4 p := by
 have := h.eq
 simpa [val4] using this
theorem piL_val : piN = 3 * 18446744073709551616 ^ 4 + val4 piL := by decide +kernel
theorem piL_lt : val4 piL < 18446744073709551616 ^ 4 := val4_lt piL_wd
theorem rad_top {r : List Nat} {n t : Nat} (hn : n ≤ 2700000) (h : MulI piL n r 0 t) : t + 3 * n < 10800000 ∧ (t + 3 * n) * 18446744073709551616 ^ 4 + val4 r = n * piN := by
 have he := h.done
 have hp := piL_lt
 rw [piL_val]
 generalize 18446744073709551616 ^ 4 = W at *
 generalize val4 piL = p at *
 constructor
 ·rcases Nat.eq_zero_or_pos n with h0 | h0
  ·have := h.tn; omega
  ·have h1 : t * W ≤ n * p := by omega
   have h2 : n * p < n * W := Nat.mul_lt_mul_of_pos_left hp h0
   have h3 : t < n := Nat.lt_of_mul_lt_mul_right (Nat.lt_of_le_of_lt h1 h2)
   omega
 ·rw [Nat.add_mul, Nat.mul_add, ← he]
  have : n * (3 * W) = 3 * n * W := by grind
  omega

set_option maxHeartbeats 1000000 in
set_option maxRecDepth 100000 in
theorem tr_radians (n : Nat) (hn : n ≤ 2700000) (w : World) :
  Calls Tryz.prog 320 #[.int .i64 (n : Int)] w fun e w' => ∃ r d, e = .returned (nuV r) ∧ w' = bw w d ∧ Wd 4 r ∧ val4 r = n * piN / 10800000 := by
 refine lay_start ?_
 have k1 : IntKind.u64.wrap (n : Int) = (n : Int) := IntWalk.u64_in _ (by omega)
 unfold nuV
 go_enter Tryz.func320, Tryz.ntmps320
 go_wp2_with fail
 go_loopw [4, 5, 6, 7, 8, 9] (fun v4 v5 _ _ _ _ wr => ∃ (k t : Nat) (r : List Nat) (d : Ext), k ≤ 4 ∧ v4 = .int .u64 (t : Int) ∧ v5 = .int .i64 ((k : Int) - 1) ∧ wr = lay w [.inr d, .inl (.cells (nuA r) 355 (0, 0)), .inl (.cells #[.int .u64 0, .int .u64 0, .int .u64 0, .int .u64 0] 355 (0, 0))] ∧ MulI piL n r k t) (fun _ v5 _ _ _ _ _ => (intOf v5 + 1).toNat)
 case atStart => exact ⟨4, 0, piL, noExt _, Nat.le_refl _, rfl, rfl, (bw_noExt _).symm, MulI.start piL_wd⟩
 case round =>
  obtain ⟨k, t, r, d, hk, rfl, rfl, rfl, hS⟩ := hrel
  have HS := Lib.hid hS
  rcases k with _ | i
  ·rw [show ((0 : Nat) : Int) - 1 = -1 from rfl]
   have g0 := nuA_get (l := r) (i := 0) (by rw [hS.wd.len]; decide)
   have g1 := nuA_get (l := r) (i := 1) (by rw [hS.wd.len]; decide)
   have g2 := nuA_get (l := r) (i := 2) (by rw [hS.wd.len]; decide)
   have g3 := nuA_get (l := r) (i := 3) (by rw [hS.wd.len]; decide)
   obtain ⟨q1, q2⟩ := rad_top hn hS
   have HD := Lib.hid (fun W => nm_div r (t + 3 * n) 10800000 hS.wd q1 (by decide) W)
   unfold nuV at HD
   rw [q2] at HD
   have z1 : (t : Int) + 3 * (n : Int) = ((t + 3 * n : Nat) : Int) := by omega
   obtain ⟨T, hT⟩ : ∃ T, t + 3 * n = T := ⟨_, rfl⟩
   rw [hT] at HD q1 z1
   have z2 : IntKind.u64.wrap ((3 : Int) * (n : Int)) = 3 * (n : Int) := IntWalk.u64_in _ (by omega)
   have z3 : IntKind.u64.wrap ((t : Int) + 3 * (n : Int)) = (T : Int) := (IntWalk.u64_in _ (by omega)).trans z1
   have z4 : (T : Int).tmod 10800000 = (T : Int) := by rw [Int.tmod_eq_emod_of_nonneg (by omega)]; omega
   have z5 : IntKind.u64.wrap (T : Int) = (T : Int) := IntWalk.u64_in _ (by omega)
   rw [show ((10800000 : Nat) : Int) = 10800000 from rfl] at HD
   clear hS q2 hT
   go_wp2_with fail
   refine (HD.out _).mono ?_
   rintro e w' ⟨r2, d2, rfl, rfl, hw2, hv2⟩
   have HW2 := Lib.hid (And.intro hw2 hv2)
   clear hw2 hv2
   go_wp2_with fail
   obtain ⟨dz, ez⟩ := lay_all w [.inr d2, .inr d, .inl (.cells (nuA r) 355 (0, 0)), .inl (.cells #[.int .u64 (nt r2 0 : Int), .int .u64 (nt r2 1 : Int), .int .u64 (nt r2 2 : Int), .int .u64 (nt r2 3 : Int)] 355 (0, 0))]
   exact bodyPost_ret (v := .agg #[.int .u64 (nt r2 0 : Int), .int .u64 (nt r2 1 : Int), .int .u64 (nt r2 2 : Int), .int .u64 (nt r2 3 : Int)]) (by simp [results, Tryz.results320, go_sem]) rfl ⟨r2, dz, rfl, ez, HW2.out.1, HW2.out.2⟩
  ·rw [show ((i + 1 : Nat) : Int) - 1 = (i : Int) by omega]
   have hi : i < 4 := by omega
   have x0 : (0 : Int) ≤ (i : Int) := by omega
   have x1 : (i : Int) < 4 := by omega
   have x2 : (i : Int).toNat = i := by omega
   obtain ⟨X, hX⟩ : ∃ X, nt r i = X := ⟨_, rfl⟩
   have g0 := nuA_get (l := r) (i := i) (by rw [hS.wd.len]; exact hi)
   rw [hX] at g0
   have hXl : X < 18446744073709551616 := by rw [← hX]; exact hS.wd.lt i
   obtain ⟨HI, LO, SS, CC, hLO, hSS, hCC, hHC, e1, e2, e3, e4, e5, e6⟩ := mul_word (x := X) (n := n) (t := t) hXl hS.tn (by omega)
   have HM := Lib.hid (fun W => Tryz.bits_Mul64 X n hXl (by omega) W)
   rw [e1, e2] at HM
   have hcall : ∀ W, (callFunc 297 #[.int .u64 (LO : Int), .int .u64 (t : Int), .int .u64 0]).run Tryz.prog W = .ok (.value (.tuple #[.int .u64 (SS : Int), .int .u64 (CC : Int)])) W := fun W => by
    have := add64 LO t 0 (by omega) W
    rw [e3, e4] at this
    exact this
   have kHC : IntKind.u64.wrap ((HI : Int) + (CC : Int)) = (HI : Int) + (CC : Int) := IntWalk.u64_in _ (by omega)
   have HN := Lib.hid (hS.step piL_wd hi hSS e6 (by rw [hX]; exact e5))
   clear hS e1 e2 e3 e4 e5 e6 hX hXl
   go_wp2_with (go_at_call 296; refine (HM.out _).mono ?_; rintro e w' ⟨rfl, hw⟩; rw [hw])
   rw [nuA_set]
   go_roundw
   case rel => exact ⟨i, HI + CC, r.set i SS, d, by omega, by first | rfl | exact congrArg (Value.int .u64) (by omega), rfl, rfl, HN.out⟩
   case measure => simp [intOf]
end Go.Proofs.YtcbicpbbjbkiaaaGreatDoor
namespace Go.Proofs.YtcbicpbbjbkiaaaGreatDoor
set_option maxHeartbeats 4000000
set_option maxRecDepth 100000
open Go.RowKit

def LowA (B : Nat) (a b r : List Nat) (k c : Nat) : Prop := valB B (r.drop k) + c * B ^ (4 - k) = valB B (a.drop k) + valB B (b.drop k)
theorem lowA_step {B : Nat} {a b r : List Nat} {i c d c' : Nat} (ha : a.length = 4) (hb : b.length = 4) (hr : r.length = 4) (hi : i < 4) (h : LowA B a b r (i + 1) c) (e : d + c' * B = nt a i + nt b i + c) : LowA B a b (r.set i d) i c' := by
 unfold LowA at *
 rw [valB_drop (l := r.set i d) (by rw [List.length_set, hr]; exact hi), valB_drop (l := b) (by rw [hb]; exact hi), valB_drop (l := a) (by rw [ha]; exact hi), drop_set, nt_set (by rw [hr]; exact hi), if_pos rfl, List.length_set, ha, hb, hr]
 have hp : B ^ (4 - i) = B ^ (4 - i - 1) * B := by rw [← Nat.pow_succ]; congr 1; omega
 rw [hp]
 rw [show 4 - (i + 1) = 4 - i - 1 by omega] at h
 generalize B ^ (4 - i - 1) = P at *
 have e2 : (d + c' * B) * P = (nt a i + nt b i + c) * P := by rw [e]
 grind
structure AddI (a b r : List Nat) (k c : Nat) : Prop where
 wd : Wd 4 r
 old : ∀ j, j < k → nt r j = nt a j
 c1 : c ≤ 1
 low : LowA 18446744073709551616 a b r k c
theorem AddI.start {a b : List Nat} (ha : Wd 4 a) (hb : Wd 4 b) : AddI a b a 4 0 := ⟨ha, fun _ _ => rfl, by omega, by
 unfold LowA
 rw [List.drop_eq_nil_of_le (by rw [ha.len]; exact Nat.le_refl 4), List.drop_eq_nil_of_le (by rw [hb.len]; exact Nat.le_refl 4)]
 simp [valB]⟩
theorem AddI.step {a b r : List Nat} {i c d c' : Nat} (h : AddI a b r (i + 1) c) (ha : Wd 4 a) (hb : Wd 4 b) (hi : i < 4) (hd : d < 18446744073709551616) (hc : c' ≤ 1) (e : d + c' * 18446744073709551616 = nt r i + nt b i + c) : AddI a b (r.set i d) i c' :=
 ⟨h.wd.set hi hd, fun j hj => by rw [nt_set (by rw [h.wd.len]; exact hi), if_neg (by omega)]; exact h.old j (by omega), hc, lowA_step ha.len hb.len h.wd.len hi h.low (by rw [← h.old i (by omega)]; exact e)⟩
theorem AddI.done {a b r : List Nat} {c : Nat} (h : AddI a b r 0 c) : c ≤ 1 ∧ val4 r + c * 18446744073709551616 ^ 4 = val4 a + val4 b := ⟨h.c1, by have := h.low; unfold LowA at this; simpa [val4] using this⟩
theorem qn_sub (a b : List Nat) (ha : Wd 4 a) (hb : Wd 4 b) (w : World) :
  Calls Tryz.prog 324 #[nuV a, nuV b] w fun e w' => ∃ r d, e = .returned (nuV r) ∧ w' = bw w d ∧ Wd 4 r ∧ ∃ c, c ≤ 1 ∧ val4 r + val4 b = val4 a + c * 18446744073709551616 ^ 4 := by
 refine lay_start ?_
 unfold nuV
 go_enter Tryz.func324, Tryz.ntmps324
 go_wp2_with fail
 rw [← nuA_four ha.len, ← nuA_four hb.len]
 go_loopw [5, 6] (fun v5 v6 wr => ∃ (k c : Nat) (r : List Nat) (d : Ext), k ≤ 4 ∧ v5 = .int .u64 (c : Int) ∧ v6 = .int .i64 ((k : Int) - 1) ∧ wr = lay w [.inr d, .inl (.cells #[.int .u64 0, .int .u64 0, .int .u64 0, .int .u64 0] 294 (0, 0)), .inl (.cells (nuA b) 294 (0, 0)), .inl (.cells (nuA r) 294 (0, 0))] ∧ SubI a b r k c) (fun _ v6 _ => (intOf v6 + 1).toNat)
 case atStart => exact ⟨4, 0, a, noExt _, Nat.le_refl _, rfl, rfl, (bw_noExt _).symm, SubI.start ha hb⟩
 case round =>
  obtain ⟨k, c, r, d, hk, rfl, rfl, rfl, hS⟩ := hrel
  have HS := Lib.hid hS
  rcases k with _ | i
  ·rw [show ((0 : Nat) : Int) - 1 = -1 from rfl]
   have g0 := nuA_get (l := r) (i := 0) (by rw [hS.wd.len]; decide)
   have g1 := nuA_get (l := r) (i := 1) (by rw [hS.wd.len]; decide)
   have g2 := nuA_get (l := r) (i := 2) (by rw [hS.wd.len]; decide)
   have g3 := nuA_get (l := r) (i := 3) (by rw [hS.wd.len]; decide)
   clear hS
   go_wp2_with fail
   obtain ⟨dz, ez⟩ := lay_all w [.inr d, .inl (.cells #[.int .u64 (nt r 0 : Int), .int .u64 (nt r 1 : Int), .int .u64 (nt r 2 : Int), .int .u64 (nt r 3 : Int)] 294 (0, 0)), .inl (.cells (nuA b) 294 (0, 0)), .inl (.cells (nuA r) 294 (0, 0))]
   exact bodyPost_ret (v := .agg #[.int .u64 (nt r 0 : Int), .int .u64 (nt r 1 : Int), .int .u64 (nt r 2 : Int), .int .u64 (nt r 3 : Int)]) (by simp [results, Tryz.results324, go_sem]) rfl ⟨r, dz, rfl, ez, HS.out.wd, c, HS.out.done⟩
  ·rw [show ((i + 1 : Nat) : Int) - 1 = (i : Int) by omega]
   have hi : i < 4 := by omega
   have x0 : (0 : Int) ≤ (i : Int) := by omega
   have x1 : (i : Int) < 4 := by omega
   have x2 : (i : Int).toNat = i := by omega
   obtain ⟨X, hX⟩ : ∃ X, nt r i = X := ⟨_, rfl⟩
   obtain ⟨Y, hY⟩ : ∃ Y, nt b i = Y := ⟨_, rfl⟩
   have g0 := nuA_get (l := r) (i := i) (by rw [hS.wd.len]; exact hi)
   have g1 := nuA_get (l := b) (i := i) (by rw [hb.len]; exact hi)
   rw [hX] at g0
   rw [hY] at g1
   obtain ⟨D, c', hD, hc', e1, e2, e3⟩ := sub_word (x := X) (y := Y) (b := c) (B := 18446744073709551616) (by rw [← hX]; exact hS.wd.lt i) (by rw [← hY]; exact hb.lt i) hS.c1
   have hcall := fun W => sub64 X Y c hS.c1 W
   rw [e1, e2] at hcall
   have HN := Lib.hid (hS.step ha hb hi hD hc' (by rw [hX, hY]; exact e3))
   clear hS e1 e2 e3
   have hz : c ≤ 1 := HS.out.c1
   go_wp2_with fail
   refine region_mixS 13 [(0, 2), (1, 2), (2, 2), (3, 0), (4, 2), (5, 2), (6, 0), (7, 2), (8, 2), (9, 2), (10, 2), (11, 2), (12, 2), (13, 3), (14, 2)] (by kernel_rfl) (by kernel_rfl) (by kernel_rfl) rfl ?_
   repeat (first | (refine wpMS_pure rfl (fun K hK => ?_); go_simp; refine hK _ ?_; clear hK K) | (refine wpMS_quiet rfl (fun K hK => ?_); go_simp; first | (refine hK _ ?_; clear hK K) | (apply Exists.intro; refine ⟨fun _ => ?_, hK _ ?_⟩; (first | fail); clear hK K)))
   refine wpMS_store rfl (fun K hK e1 => ?_)
   rw [lay_bw]
   go_simp
   refine hK _ _ ?_
   clear hK K
   rw [nuA_set]
   repeat (first | (refine wpMS_pure rfl (fun K hK => ?_); go_simp; refine hK _ ?_; clear hK K) | (refine wpMS_quiet rfl (fun K hK => ?_); go_simp; first | (refine hK _ ?_; clear hK K) | (apply Exists.intro; refine ⟨fun _ => ?_, hK _ ?_⟩; (first | fail); clear hK K)))
   refine wpMS_nil (fun e2 => ?_)
   rw [lay_bw]
   obtain ⟨d3, e3⟩ := lay_fold w [.inr e2, .inr e1, .inr d] [.inl (.cells #[.int .u64 0, .int .u64 0, .int .u64 0, .int .u64 0] 294 (0, 0)), .inl (.cells (nuA b) 294 (0, 0)), .inl (.cells (nuA (r.set i D)) 294 (0, 0))]
   change lay w [.inr e2, .inr e1, .inr d, .inl (.cells #[.int .u64 0, .int .u64 0, .int .u64 0, .int .u64 0] 294 (0, 0)), .inl (.cells (nuA b) 294 (0, 0)), .inl (.cells (nuA (r.set i D)) 294 (0, 0))] = _ at e3
   rw [e3]
   clear e3
   go_wp2_with fail
   go_roundw
   case rel => exact ⟨i, c', r.set i D, d3, by omega, rfl, rfl, rfl, HN.out⟩
   case measure => simp [intOf]
theorem qn_add (a b : List Nat) (ha : Wd 4 a) (hb : Wd 4 b) (w : World) :
  Calls Tryz.prog 325 #[nuV a, nuV b] w fun e w' => ∃ r d, e = .returned (nuV r) ∧ w' = bw w d ∧ Wd 4 r ∧ ∃ c, c ≤ 1 ∧ val4 r + c * 18446744073709551616 ^ 4 = val4 a + val4 b := by
 refine lay_start ?_
 unfold nuV
 go_enter Tryz.func325, Tryz.ntmps325
 go_wp2_with fail
 rw [← nuA_four ha.len, ← nuA_four hb.len]
 go_loopw [5, 6] (fun v5 v6 wr => ∃ (k c : Nat) (r : List Nat) (d : Ext), k ≤ 4 ∧ v5 = .int .u64 (c : Int) ∧ v6 = .int .i64 ((k : Int) - 1) ∧ wr = lay w [.inr d, .inl (.cells #[.int .u64 0, .int .u64 0, .int .u64 0, .int .u64 0] 294 (0, 0)), .inl (.cells (nuA b) 294 (0, 0)), .inl (.cells (nuA r) 294 (0, 0))] ∧ AddI a b r k c) (fun _ v6 _ => (intOf v6 + 1).toNat)
 case atStart => exact ⟨4, 0, a, noExt _, Nat.le_refl _, rfl, rfl, (bw_noExt _).symm, AddI.start ha hb⟩
 case round =>
  obtain ⟨k, c, r, d, hk, rfl, rfl, rfl, hS⟩ := hrel
  have HS := Lib.hid hS
  rcases k with _ | i
  ·rw [show ((0 : Nat) : Int) - 1 = -1 from rfl]
   have g0 := nuA_get (l := r) (i := 0) (by rw [hS.wd.len]; decide)
   have g1 := nuA_get (l := r) (i := 1) (by rw [hS.wd.len]; decide)
   have g2 := nuA_get (l := r) (i := 2) (by rw [hS.wd.len]; decide)
   have g3 := nuA_get (l := r) (i := 3) (by rw [hS.wd.len]; decide)
   clear hS
   go_wp2_with fail
   obtain ⟨dz, ez⟩ := lay_all w [.inr d, .inl (.cells #[.int .u64 (nt r 0 : Int), .int .u64 (nt r 1 : Int), .int .u64 (nt r 2 : Int), .int .u64 (nt r 3 : Int)] 294 (0, 0)), .inl (.cells (nuA b) 294 (0, 0)), .inl (.cells (nuA r) 294 (0, 0))]
   exact bodyPost_ret (v := .agg #[.int .u64 (nt r 0 : Int), .int .u64 (nt r 1 : Int), .int .u64 (nt r 2 : Int), .int .u64 (nt r 3 : Int)]) (by simp [results, Tryz.results325, go_sem]) rfl ⟨r, dz, rfl, ez, HS.out.wd, c, HS.out.done⟩
  ·rw [show ((i + 1 : Nat) : Int) - 1 = (i : Int) by omega]
   have hi : i < 4 := by omega
   have x0 : (0 : Int) ≤ (i : Int) := by omega
   have x1 : (i : Int) < 4 := by omega
   have x2 : (i : Int).toNat = i := by omega
   obtain ⟨X, hX⟩ : ∃ X, nt r i = X := ⟨_, rfl⟩
   obtain ⟨Y, hY⟩ : ∃ Y, nt b i = Y := ⟨_, rfl⟩
   have g0 := nuA_get (l := r) (i := i) (by rw [hS.wd.len]; exact hi)
   have g1 := nuA_get (l := b) (i := i) (by rw [hb.len]; exact hi)
   rw [hX] at g0
   rw [hY] at g1
   obtain ⟨D, c', hD, hc', e1, e2, e3⟩ := add_word (x := X) (y := Y) (c := c) (B := 18446744073709551616) (by rw [← hX]; exact hS.wd.lt i) (by rw [← hY]; exact hb.lt i) hS.c1
   have hcall := fun W => add64 X Y c hS.c1 W
   rw [e1, e2] at hcall
   have HN := Lib.hid (hS.step ha hb hi hD hc' (by rw [hX, hY]; exact e3))
   clear hS e1 e2 e3
   have hz : c ≤ 1 := HS.out.c1
   go_wp2_with fail
   refine region_mixS 13 [(0, 2), (1, 2), (2, 2), (3, 0), (4, 2), (5, 2), (6, 0), (7, 2), (8, 2), (9, 2), (10, 2), (11, 2), (12, 2), (13, 3), (14, 2)] (by kernel_rfl) (by kernel_rfl) (by kernel_rfl) rfl ?_
   repeat (first | (refine wpMS_pure rfl (fun K hK => ?_); go_simp; refine hK _ ?_; clear hK K) | (refine wpMS_quiet rfl (fun K hK => ?_); go_simp; first | (refine hK _ ?_; clear hK K) | (apply Exists.intro; refine ⟨fun _ => ?_, hK _ ?_⟩; (first | fail); clear hK K)))
   refine wpMS_store rfl (fun K hK e1 => ?_)
   rw [lay_bw]
   go_simp
   refine hK _ _ ?_
   clear hK K
   rw [nuA_set]
   repeat (first | (refine wpMS_pure rfl (fun K hK => ?_); go_simp; refine hK _ ?_; clear hK K) | (refine wpMS_quiet rfl (fun K hK => ?_); go_simp; first | (refine hK _ ?_; clear hK K) | (apply Exists.intro; refine ⟨fun _ => ?_, hK _ ?_⟩; (first | fail); clear hK K)))
   refine wpMS_nil (fun e2 => ?_)
   rw [lay_bw]
   obtain ⟨d3, e3⟩ := lay_fold w [.inr e2, .inr e1, .inr d] [.inl (.cells #[.int .u64 0, .int .u64 0, .int .u64 0, .int .u64 0] 294 (0, 0)), .inl (.cells (nuA b) 294 (0, 0)), .inl (.cells (nuA (r.set i D)) 294 (0, 0))]
   change lay w [.inr e2, .inr e1, .inr d, .inl (.cells #[.int .u64 0, .int .u64 0, .int .u64 0, .int .u64 0] 294 (0, 0)), .inl (.cells (nuA b) 294 (0, 0)), .inl (.cells (nuA (r.set i D)) 294 (0, 0))] = _ at e3
   rw [e3]
   clear e3
   go_wp2_with fail
   go_roundw
   case rel => exact ⟨i, c', r.set i D, d3, by omega, rfl, rfl, rfl, HN.out⟩
   case measure => simp [intOf]
theorem qn_over (a : List Nat) (dv : Nat) (ha : Wd 4 a) (ht : 0 < dv) (hd : dv < 18446744073709551616) (w : World) :
  Calls Tryz.prog 293 #[nuV a, .int .u64 (dv : Int)] w fun e w' => ∃ r d, e = .returned (nuV r) ∧ w' = bw w d ∧ Wd 4 r ∧ val4 r = val4 a / dv := by
 refine lay_start ?_
 unfold nuV
 go_enter Tryz.func293, Tryz.ntmps293
 go_wp2_with fail
 rw [← nuA_four ha.len]
 go_loopw [5, 7] (fun v1 v8 wr => ∃ (k t : Nat) (r : List Nat) (d : Ext), k ≤ 4 ∧ v1 = .int .u64 (t : Int) ∧ v8 = .int .i64 (k : Int) ∧ wr = lay w [.inr d, .inl (.cells #[.int .u64 0, .int .u64 0, .int .u64 0, .int .u64 0] 294 (0, 0)), .inl (.cells (nuA r) 294 (0, 0))] ∧ DivI a 0 dv r k t) (fun _ v8 _ => 4 - (intOf v8).toNat)
 case atStart => exact ⟨0, 0, a, noExt _, by omega, rfl, rfl, (bw_noExt _).symm, DivI.start ha ht⟩
 case round =>
  obtain ⟨k, t, r, d, hk, rfl, rfl, rfl, hS⟩ := hrel
  have HS := Lib.hid hS
  by_cases hk4 : k = 4
  ·subst hk4
   have g0 := nuA_get (l := r) (i := 0) (by rw [hS.wd.len]; decide)
   have g1 := nuA_get (l := r) (i := 1) (by rw [hS.wd.len]; decide)
   have g2 := nuA_get (l := r) (i := 2) (by rw [hS.wd.len]; decide)
   have g3 := nuA_get (l := r) (i := 3) (by rw [hS.wd.len]; decide)
   clear hS
   go_wp2_with fail
   obtain ⟨dz, ez⟩ := lay_all w [.inr d, .inl (.cells #[.int .u64 (nt r 0 : Int), .int .u64 (nt r 1 : Int), .int .u64 (nt r 2 : Int), .int .u64 (nt r 3 : Int)] 294 (0, 0)), .inl (.cells (nuA r) 294 (0, 0))]
   exact bodyPost_ret (v := .agg #[.int .u64 (nt r 0 : Int), .int .u64 (nt r 1 : Int), .int .u64 (nt r 2 : Int), .int .u64 (nt r 3 : Int)]) (by simp [results, Tryz.results293, go_sem]) rfl ⟨r, dz, rfl, ez, HS.out.wd, by have := HS.out.done ha; rw [Nat.zero_mul, Nat.zero_add] at this; exact this⟩
  ·have hi : k < 4 := by omega
   have x0 : (0 : Int) ≤ (k : Int) := by omega
   have x1 : (k : Int) < 4 := by omega
   have x2 : (k : Int).toNat = k := by omega
   obtain ⟨hq, hN⟩ := hS.step ha hi
   obtain ⟨X, hX⟩ : ∃ X, nt r k = X := ⟨_, rfl⟩
   have g0 := nuA_get (l := r) (i := k) (by rw [hS.wd.len]; exact hi)
   have HC := Lib.hid (fun W => div64 t X dv hS.td (by rw [← hX]; exact hS.wd.lt k) hd W)
   rw [hX] at g0 hN hq
   obtain ⟨Q, hQ⟩ : ∃ Q, (t * 18446744073709551616 + X) / dv = Q := ⟨_, rfl⟩
   obtain ⟨T, hT⟩ : ∃ T, (t * 18446744073709551616 + X) % dv = T := ⟨_, rfl⟩
   rw [hQ, hT] at hN HC
   have HN := Lib.hid hN
   clear hS hN hQ hT hX hq
   go_wp2_with (go_at_call 307; refine (HC.out _).mono ?_; rintro e w' ⟨rfl, d1, rfl⟩)
   rw [nuA_set]
   obtain ⟨d3, e3⟩ := lay_fold w [.inr d1, .inr d] [.inl (.cells #[.int .u64 0, .int .u64 0, .int .u64 0, .int .u64 0] 294 (0, 0)), .inl (.cells (nuA (r.set k Q)) 294 (0, 0))]
   change lay w [.inr d1, .inr d, .inl (.cells #[.int .u64 0, .int .u64 0, .int .u64 0, .int .u64 0] 294 (0, 0)), .inl (.cells (nuA (r.set k Q)) 294 (0, 0))] = _ at e3
   rw [e3]
   clear e3
   go_roundw
   case rel => exact ⟨k + 1, T, r.set k Q, d3, by omega, rfl, by first | rfl | exact congrArg (Value.int .i64) (by omega), rfl, HN.out⟩
   case measure => simp [intOf]; omega
set_option maxHeartbeats 4000000
set_option maxRecDepth 100000
open Go.RowKit

theorem qn_times (a : List Nat) (n : Nat) (ha : Wd 4 a) (hn : n < 18446744073709551616) (w : World) :
  Calls Tryz.prog 248 #[nuV a, .int .u64 (n : Int)] w fun e w' => ∃ r d, e = .returned (nuV r) ∧ w' = bw w d ∧ Wd 4 r ∧ ∃ t, val4 r + t * 18446744073709551616 ^ 4 = n * val4 a := by
 refine lay_start ?_
 unfold nuV
 go_enter Tryz.func248, Tryz.ntmps248
 go_wp2_with fail
 rw [← nuA_four ha.len]
 go_loopw [5, 6, 7, 8, 9] (fun v4 v5 _ _ _ wr => ∃ (k t : Nat) (r : List Nat) (d : Ext), k ≤ 4 ∧ v4 = .int .u64 (t : Int) ∧ v5 = .int .i64 ((k : Int) - 1) ∧ wr = lay w [.inr d, .inl (.cells #[.int .u64 0, .int .u64 0, .int .u64 0, .int .u64 0] 294 (0, 0)), .inl (.cells (nuA r) 294 (0, 0))] ∧ MulI a n r k t) (fun _ v5 _ _ _ _ => (intOf v5 + 1).toNat)
 case atStart => exact ⟨4, 0, a, noExt _, Nat.le_refl _, rfl, rfl, (bw_noExt _).symm, MulI.start ha⟩
 case round =>
  obtain ⟨k, t, r, d, hk, rfl, rfl, rfl, hS⟩ := hrel
  have HS := Lib.hid hS
  rcases k with _ | i
  ·rw [show ((0 : Nat) : Int) - 1 = -1 from rfl]
   have g0 := nuA_get (l := r) (i := 0) (by rw [hS.wd.len]; decide)
   have g1 := nuA_get (l := r) (i := 1) (by rw [hS.wd.len]; decide)
   have g2 := nuA_get (l := r) (i := 2) (by rw [hS.wd.len]; decide)
   have g3 := nuA_get (l := r) (i := 3) (by rw [hS.wd.len]; decide)
   clear hS
   go_wp2_with fail
   obtain ⟨dz, ez⟩ := lay_all w [.inr d, .inl (.cells #[.int .u64 (nt r 0 : Int), .int .u64 (nt r 1 : Int), .int .u64 (nt r 2 : Int), .int .u64 (nt r 3 : Int)] 294 (0, 0)), .inl (.cells (nuA r) 294 (0, 0))]
   exact bodyPost_ret (v := .agg #[.int .u64 (nt r 0 : Int), .int .u64 (nt r 1 : Int), .int .u64 (nt r 2 : Int), .int .u64 (nt r 3 : Int)]) (by simp [results, Tryz.results248, go_sem]) rfl ⟨r, dz, rfl, ez, HS.out.wd, t, HS.out.done⟩
  ·rw [show ((i + 1 : Nat) : Int) - 1 = (i : Int) by omega]
   have hi : i < 4 := by omega
   have x0 : (0 : Int) ≤ (i : Int) := by omega
   have x1 : (i : Int) < 4 := by omega
   have x2 : (i : Int).toNat = i := by omega
   obtain ⟨X, hX⟩ : ∃ X, nt r i = X := ⟨_, rfl⟩
   have g0 := nuA_get (l := r) (i := i) (by rw [hS.wd.len]; exact hi)
   rw [hX] at g0
   have hXl : X < 18446744073709551616 := by rw [← hX]; exact hS.wd.lt i
   obtain ⟨HI, LO, SS, CC, hLO, hSS, hCC, hHC, e1, e2, e3, e4, e5, e6⟩ := mul_word (x := X) (n := n) (t := t) hXl hS.tn hn
   have HM := Lib.hid (fun W => Tryz.bits_Mul64 X n hXl hn W)
   rw [e1, e2] at HM
   have hcall : ∀ W, (callFunc 297 #[.int .u64 (LO : Int), .int .u64 (t : Int), .int .u64 0]).run Tryz.prog W = .ok (.value (.tuple #[.int .u64 (SS : Int), .int .u64 (CC : Int)])) W := fun W => by
    have := add64 LO t 0 (by omega) W
    rw [e3, e4] at this
    exact this
   have kHC : IntKind.u64.wrap ((HI : Int) + (CC : Int)) = (HI : Int) + (CC : Int) := IntWalk.u64_in _ (by omega)
   have HN := Lib.hid (hS.step ha hi hSS e6 (by rw [hX]; exact e5))
   clear hS e1 e2 e3 e4 e5 e6 hX hXl
   go_wp2_with (go_at_call 296; refine (HM.out _).mono ?_; rintro e w' ⟨rfl, hw⟩; rw [hw])
   rw [nuA_set]
   go_roundw
   case rel => exact ⟨i, HI + CC, r.set i SS, d, by omega, by first | rfl | exact congrArg (Value.int .u64) (by omega), rfl, rfl, HN.out⟩
   case measure => simp [intOf]
theorem lex_lt {B : Nat} {a b : List Nat} {n i : Nat} (ha : a.length = n) (hb : b.length = n) (la : ∀ x ∈ a, x < B) (lb : ∀ x ∈ b, x < B) (hi : i < n) (hB : 0 < B) (h : ∀ j, j < i → nt a j = nt b j) (hne : nt a i ≠ nt b i) : (valB B a < valB B b ↔ nt a i < nt b i) := by
 have key : ∀ k, k ≤ i → valB B a + valB B (b.drop k) = valB B b + valB B (a.drop k) := by
  intro k
  induction k with
  | zero => intro _; rw [List.drop_zero, List.drop_zero]; omega
  | succ k ih =>
   intro hk
   have := ih (by omega)
   rw [valB_drop (l := b) (by omega), valB_drop (l := a) (by omega), h k (by omega), ha, hb] at this
   omega
 have h1 := key i (Nat.le_refl i)
 rw [valB_drop (l := b) (by omega), valB_drop (l := a) (by omega), ha, hb] at h1
 have ua := valB_lt hB (l := a.drop (i + 1)) (fun x hx => la x (List.mem_of_mem_drop hx))
 have ub := valB_lt hB (l := b.drop (i + 1)) (fun x hx => lb x (List.mem_of_mem_drop hx))
 rw [List.length_drop, ha] at ua
 rw [List.length_drop, hb] at ub
 have ep : n - (i + 1) = n - i - 1 := by omega
 rw [ep] at ua ub
 generalize B ^ (n - i - 1) = P at *
 generalize valB B (a.drop (i + 1)) = u at *
 generalize valB B (b.drop (i + 1)) = v at *
 generalize valB B a = A at *
 generalize valB B b = C at *
 rcases Nat.lt_or_gt_of_ne hne with g | g
 ·have := Nat.mul_le_mul_right P (show nt a i + 1 ≤ nt b i from g)
  rw [Nat.add_mul] at this
  constructor <;> intro _ <;> omega
 ·have := Nat.mul_le_mul_right P (show nt b i + 1 ≤ nt a i from g)
  rw [Nat.add_mul] at this
  constructor <;> intro _ <;> omega
theorem lex_eq {B : Nat} {a b : List Nat} (ha : a.length = 4) (hb : b.length = 4) (h : ∀ j, j < 4 → nt a j = nt b j) : valB B a = valB B b := by
 have : a = b := by
  refine List.ext_getElem (by omega) fun i h1 h2 => ?_
  have := h i (by omega)
  unfold nt at this
  simpa [List.getD, h1, h2] using this
 rw [this]
theorem qn_less (a b : List Nat) (ha : Wd 4 a) (hb : Wd 4 b) (w : World) :
  Calls Tryz.prog 249 #[nuV a, nuV b] w fun e w' => e = .returned (.bool (decide (val4 a < val4 b))) ∧ ∃ d, w' = bw w d := by
 refine lay_start ?_
 unfold nuV
 go_enter Tryz.func249, Tryz.ntmps249
 go_wp2_with fail
 rw [← nuA_four ha.len, ← nuA_four hb.len]
 go_loopw [6] (fun v6 wr => ∃ (k : Nat) (d : Ext), k ≤ 4 ∧ v6 = .int .i64 (k : Int) ∧ wr = lay w [.inr d, .inl (.cells (nuA b) 294 (0, 0)), .inl (.cells (nuA a) 294 (0, 0))] ∧ ∀ j, j < k → nt a j = nt b j) (fun v6 _ => 4 - (intOf v6).toNat)
 case atStart => exact ⟨0, noExt _, by omega, rfl, (bw_noExt _).symm, fun j hj => by omega⟩
 case round =>
  obtain ⟨k, d, hk, rfl, rfl, hS⟩ := hrel
  have HS := Lib.hid hS
  by_cases hk4 : k = 4
  ·subst hk4
   have hv := lex_eq (B := 18446744073709551616) ha.len hb.len hS
   have hd : decide (val4 a < val4 b) = false := decide_eq_false (by unfold val4; omega)
   have HD := Lib.hid hd
   clear hS hv hd
   go_wp2_with fail
   go_ret
   exact ⟨by rw [HD.out]; rfl, lay_ex _ _⟩
  ·have hi : k < 4 := by omega
   have x0 : (0 : Int) ≤ (k : Int) := by omega
   have x1 : (k : Int) < 4 := by omega
   have x2 : (k : Int).toNat = k := by omega
   obtain ⟨X, hX⟩ : ∃ X, nt a k = X := ⟨_, rfl⟩
   obtain ⟨Y, hY⟩ : ∃ Y, nt b k = Y := ⟨_, rfl⟩
   have g0 := nuA_get (l := a) (i := k) (by rw [ha.len]; exact hi)
   have g1 := nuA_get (l := b) (i := k) (by rw [hb.len]; exact hi)
   rw [hX] at g0
   rw [hY] at g1
   by_cases hne : X = Y
   ·subst hne
    have e1 : ((X : Int) != (X : Int)) = false := by simp
    have HN : Hid (∀ j, j < k + 1 → nt a j = nt b j) := Lib.hid fun j hj => by
     by_cases h : j = k
     ·subst h; rw [hX, hY]
     ·exact HS.out j (by omega)
    clear hS hX hY
    go_wp2_with fail
    refine region_bw (by kernel_rfl) (by kernel_rfl) ?_
    repeat (go_big_quiet_step ((first | fail)))
    refine wpQuiet_nil ?_
    rintro w' ⟨dq, rfl⟩
    rw [lay_bw]
    go_wp2_with fail
    obtain ⟨d3, e3⟩ := lay_fold w [.inr dq, .inr d] [.inl (.cells (nuA b) 294 (0, 0)), .inl (.cells (nuA a) 294 (0, 0))]
    change lay w [.inr dq, .inr d, .inl (.cells (nuA b) 294 (0, 0)), .inl (.cells (nuA a) 294 (0, 0))] = _ at e3
    rw [e3]
    go_roundw
    case rel => exact ⟨k + 1, d3, by omega, by first | rfl | exact congrArg (Value.int .i64) (by omega), rfl, HN.out⟩
    case measure => simp [intOf]; omega
   ·have e1 : ((X : Int) != (Y : Int)) = true := by simp; omega
    have hl := lex_lt (B := 18446744073709551616) ha.len hb.len ha.mem hb.mem hi (by decide) hS (by rw [hX, hY]; exact hne)
    rw [hX, hY] at hl
    have HD : Hid (decide (X < Y) = decide (val4 a < val4 b)) := Lib.hid (decide_eq_decide.2 (by unfold val4; rw [hl]))
    clear hS hX hY hl
    go_wp2_with fail
    refine region_bw (by kernel_rfl) (by kernel_rfl) ?_
    repeat (go_big_quiet_step ((first | fail)))
    refine wpQuiet_nil ?_
    rintro w' ⟨dq, rfl⟩
    rw [lay_bw]
    go_wp2_with fail
    refine region_bw (by kernel_rfl) (by kernel_rfl) ?_
    repeat (go_big_quiet_step ((first | fail)))
    refine wpQuiet_nil ?_
    rintro w' ⟨dr, rfl⟩
    rw [lay_bw]
    go_wp2_with fail
    go_ret
    exact ⟨by rw [← HD.out]; rfl, lay_ex _ _⟩
end Go.Proofs.YtcbicpbbjbkiaaaGreatDoor
namespace Go.Proofs.YtcbicpbbjbkiaaaGreatDoor
open Go.RowKit

theorem valB_set {B x : Nat} : ∀ {l : List Nat} {p : Nat}, p < l.length → valB B (l.set p x) + nt l p * B ^ (l.length - p - 1) = valB B l + x * B ^ (l.length - p - 1)
 | [], p, h => absurd h (Nat.not_lt_zero _)
 | y :: l, 0, _ => by
  simp only [List.set_cons_zero, valB, nt, List.getD_cons_zero, List.length_cons]
  rw [show l.length + 1 - 0 - 1 = l.length by omega]
  omega
 | y :: l, p + 1, h => by
  have ih := valB_set (B := B) (x := x) (l := l) (p := p) (by simpa using h)
  simp only [List.set_cons_succ, valB, nt, List.getD_cons_succ, List.length_cons, List.length_set] at ih ⊢
  rw [show l.length + 1 - (p + 1) - 1 = l.length - p - 1 by omega]
  omega
def rowM (B : Nat) (b : List Nat) (i : Nat) : Nat → Nat
 | 0 => 0
 | m + 1 => (if i + (3 - m) ≤ 4 then nt b (3 - m) * B ^ (4 - i - (3 - m)) else 0) + rowM B b i m
def sumR (B : Nat) (a b : List Nat) : Nat → Nat
 | 0 => 0
 | m + 1 => nt a (3 - m) * rowM B b (3 - m) 4 + sumR B a b m
theorem sumR_le {B : Nat} {a b : List Nat} {m : Nat} : ∀ {n : Nat}, m ≤ n → sumR B a b m ≤ sumR B a b n
 | 0, h => by
  have : m = 0 := by omega
  subst this; exact Nat.le_refl _
 | n + 1, h => by
  by_cases e : m = n + 1
  ·subst e; exact Nat.le_refl _
  ·have := sumR_le (B := B) (a := a) (b := b) (m := m) (n := n) (by omega)
   show sumR B a b m ≤ nt a (3 - n) * rowM B b (3 - n) 4 + sumR B a b n
   omega
theorem sumR_all {B : Nat} {a b : List Nat} (ha : a.length = 4) (hb : b.length = 4) : sumR B a b 4 * B ^ 2 + (nt a 2 * nt b 3 * B + nt a 3 * nt b 2 * B + nt a 3 * nt b 3) = valB B a * valB B b := by
 match a, b, ha, hb with
 | [a0, a1, a2, a3], [b0, b1, b2, b3], _, _ =>
  simp [sumR, rowM, valB, nt]
  grind
theorem sumR_ok {B : Nat} {a b : List Nat} (ha : a.length = 4) (hb : b.length = 4) (la : ∀ i, nt a i < B) (lb : ∀ i, nt b i < B) : sumR B a b 4 * B ^ 2 ≤ valB B a * valB B b ∧ valB B a * valB B b ≤ sumR B a b 4 * B ^ 2 + 3 * B ^ 3 := by
 have h := sumR_all (B := B) ha hb
 have m : ∀ i j, nt a i * nt b j ≤ B * B := fun i j => Nat.mul_le_mul (Nat.le_of_lt (la i)) (Nat.le_of_lt (lb j))
 have h1 := Nat.mul_le_mul_right B (m 2 3)
 have h2 := Nat.mul_le_mul_right B (m 3 2)
 have h3 := m 3 3
 have hB : 0 < B := Nat.lt_of_le_of_lt (Nat.zero_le _) (la 0)
 have h4 : B * B ≤ B * B * B := Nat.le_mul_of_pos_right _ hB
 have e : B ^ 3 = B * B * B := by grind
 rw [← h, e]
 generalize B * B * B = C at *
 constructor <;> omega
theorem sumR_lt {B : Nat} {a b : List Nat} (ha : a.length = 4) (hb : b.length = 4) (la : ∀ x ∈ a, x < B) (lb : ∀ x ∈ b, x < B) (hB : 0 < B) : sumR B a b 4 < B ^ 6 := by
 have h := sumR_all (B := B) ha hb
 have h1 := valB_lt hB la
 have h2 := valB_lt hB lb
 rw [ha] at h1
 rw [hb] at h2
 have h3 : valB B a * valB B b < B ^ 4 * B ^ 4 := Nat.mul_lt_mul'' h1 h2
 have h4 : B ^ 4 * B ^ 4 = B ^ 6 * B ^ 2 := by rw [← Nat.pow_add, ← Nat.pow_add]
 have h5 : sumR B a b 4 * B ^ 2 < B ^ 6 * B ^ 2 := by rw [← h4]; omega
 exact Nat.lt_of_mul_lt_mul_right h5
theorem row_word {B x y o c : Nat} (hx : x < B) (hy : y < B) (ho : o < B) (hc : c < B) : ∃ hi lo s1 c1 s2 c2 : Nat, x * y / B = hi ∧ x * y % B = lo ∧ (o + lo + 0) % B = s1 ∧ (o + lo + 0) / B = c1 ∧ (s1 + c + 0) % B = s2 ∧ (s1 + c + 0) / B = c2 ∧ c1 ≤ 1 ∧ c2 ≤ 1 ∧ s2 < B ∧ s1 < B ∧ lo < B ∧ hi + c1 + c2 < B ∧ s2 + (hi + c1 + c2) * B = o + x * y + c := by
 have hB : 0 < B := by omega
 have h1 := Nat.div_add_mod (x * y) B
 have h2 := Nat.mod_lt (x * y) hB
 obtain ⟨s1, c1, hs1, hc1, e1, e2, e3⟩ := add_word (x := o) (y := x * y % B) (c := 0) ho h2 (by omega)
 obtain ⟨s2, c2, hs2, hc2, e4, e5, e6⟩ := add_word (x := s1) (y := c) (c := 0) hs1 hc (by omega)
 have e7 : s2 + (x * y / B + c1 + c2) * B = o + x * y + c := by
  rw [Nat.add_mul, Nat.add_mul, Nat.mul_comm (x * y / B) B]
  omega
 refine ⟨_, _, s1, c1, s2, c2, rfl, rfl, e1, e2, e4, e5, hc1, hc2, hs2, hs1, h2, ?_, e7⟩
 have h8 : x * y + x + y + 1 ≤ B * B := by
  have := Nat.mul_le_mul (show x + 1 ≤ B by omega) (show y + 1 ≤ B by omega)
  rw [Nat.succ_mul, Nat.mul_succ] at this
  omega
 have h9 : (x * y / B + c1 + c2) * B < B * B := by
  by_cases hz : x + y + 2 ≤ B + B
  ·have : x * y ≤ (B - 1) * (B - 1) := Nat.mul_le_mul (by omega) (by omega)
   have h10 : (B - 1) * (B - 1) + (B - 1) + (B - 1) + 1 = B * B := by
    obtain ⟨k, rfl⟩ : ∃ k, B = k + 1 := ⟨B - 1, by omega⟩
    simp only [Nat.add_sub_cancel]
    grind
   omega
  ·omega
 exact Nat.lt_of_mul_lt_mul_right h9
structure RowI (a b : List Nat) (i V0 : Nat) (o : List Nat) (k c : Nat) : Prop where
 wd : Wd 6 o
 cB : c < 18446744073709551616
 c0 : 5 < i + k → c = 0
 eq : valB 18446744073709551616 o + c * 18446744073709551616 ^ (5 - (i + k)) = V0 + nt a i * rowM 18446744073709551616 b i (4 - k)
theorem RowI.start {a b o : List Nat} {i : Nat} (h : Wd 6 o) : RowI a b i (valB 18446744073709551616 o) o 4 0 := ⟨h, by decide, fun _ => rfl, by simp [rowM]⟩
theorem RowI.skip {a b o : List Nat} {i V0 j c : Nat} (h : RowI a b i V0 o (j + 1) c) (hj : j < 4) (hs : 4 < i + j) : RowI a b i V0 o j c := by
 have hc := h.c0 (by omega)
 subst hc
 refine ⟨h.wd, by decide, fun _ => rfl, ?_⟩
 have he := h.eq
 rw [show 4 - j = 4 - (j + 1) + 1 by omega]
 unfold rowM
 rw [show 3 - (4 - (j + 1)) = j by omega, if_neg (by omega)]
 simpa using he
theorem RowI.step {a b o : List Nat} {i V0 j c s c' : Nat} (h : RowI a b i V0 o (j + 1) c) (hj : j < 4) (hs : i + j ≤ 4) (hsB : s < 18446744073709551616) (hc : c' < 18446744073709551616) (e : s + c' * 18446744073709551616 = nt o (i + j + 1) + nt a i * nt b j + c) : RowI a b i V0 (o.set (i + j + 1) s) j c' := by
 refine ⟨h.wd.set (by omega) hsB, hc, fun hh => by omega, ?_⟩
 have he := h.eq
 have hset := valB_set (B := 18446744073709551616) (x := s) (l := o) (p := i + j + 1) (by rw [h.wd.len]; omega)
 rw [h.wd.len] at hset
 rw [show 4 - j = 4 - (j + 1) + 1 by omega]
 unfold rowM
 rw [show 3 - (4 - (j + 1)) = j by omega, if_pos hs]
 rw [show 5 - (i + (j + 1)) = 4 - i - j by omega] at he
 rw [show 6 - (i + j + 1) - 1 = 4 - i - j by omega] at hset
 have hp : 18446744073709551616 ^ (5 - (i + j)) = 18446744073709551616 ^ (4 - i - j) * 18446744073709551616 := by rw [← Nat.pow_succ]; congr 1; omega
 rw [hp]
 generalize 18446744073709551616 ^ (4 - i - j) = P at *
 generalize rowM _ b i (4 - (j + 1)) = R at *
 generalize (18446744073709551616 : Nat) = B at *
 have e2 : (s + c' * B) * P = (nt o (i + j + 1) + nt a i * nt b j + c) * P := by rw [e]
 grind
structure CarI (T : Nat) (o : List Nat) (q c : Nat) : Prop where
 wd : Wd 6 o
 cB : c < 18446744073709551616
 eq : valB 18446744073709551616 o + c * 18446744073709551616 ^ (6 - q) = T
theorem RowI.car {a b o : List Nat} {i V0 c : Nat} (h : RowI a b i V0 o 0 c) (hi : i < 4) : CarI (V0 + nt a i * rowM 18446744073709551616 b i 4) o (i + 1) c := ⟨h.wd, h.cB, by
 have he := h.eq
 rw [show 5 - (i + 0) = 6 - (i + 1) by omega] at he
 exact he⟩
theorem CarI.step {T k c s c' : Nat} {o : List Nat} (h : CarI T o (k + 1) c) (hk : k < 4) (hs : s < 18446744073709551616) (hc : c' ≤ 1) (e : s + c' * 18446744073709551616 = nt o k + c + 0) : CarI T (o.set k s) k c' := by
 refine ⟨h.wd.set (by omega) hs, by omega, ?_⟩
 have he := h.eq
 have hset := valB_set (B := 18446744073709551616) (x := s) (l := o) (p := k) (by rw [h.wd.len]; omega)
 rw [h.wd.len] at hset
 rw [show 6 - (k + 1) = 6 - k - 1 by omega] at he
 have hp : 18446744073709551616 ^ (6 - k) = 18446744073709551616 ^ (6 - k - 1) * 18446744073709551616 := by rw [← Nat.pow_succ]; congr 1; omega
 rw [hp]
 generalize 18446744073709551616 ^ (6 - k - 1) = P at *
 generalize (18446744073709551616 : Nat) = B at *
 have e2 : (s + c' * B) * P = (nt o k + c + 0) * P := by rw [e]
 grind
theorem CarI.done {T q c : Nat} {o : List Nat} (h : CarI T o q c) (hT : T < 18446744073709551616 ^ 6) (hq : q = 0 ∨ c = 0) : valB 18446744073709551616 o = T := by
 have he := h.eq
 rcases hq with rfl | rfl
 ·have : c = 0 := by
   rcases Nat.eq_zero_or_pos c with h0 | h0
   ·exact h0
   ·have h1 : 1 * 18446744073709551616 ^ (6 - 0) ≤ c * 18446744073709551616 ^ (6 - 0) := Nat.mul_le_mul_right _ h0
    rw [show 6 - 0 = 6 by rfl] at *
    omega
  subst this
  simpa using he
 ·simpa using he
theorem take4 {o : List Nat} (h : Wd 6 o) : Wd 4 (o.take 4) ∧ val4 (o.take 4) = valB 18446744073709551616 o / 18446744073709551616 ^ 2 ∧ ∀ i, i < 4 → nt (o.take 4) i = nt o i := by
 have hl := h.len
 match o, hl with
 | [x0, x1, x2, x3, x4, x5], _ =>
  have q : ∀ i, i < 4 → nt [x0, x1, x2, x3] i = nt [x0, x1, x2, x3, x4, x5] i := fun i hi => by
   match i, hi with
   | 0, _ => rfl
   | 1, _ => rfl
   | 2, _ => rfl
   | 3, _ => rfl
  refine ⟨⟨rfl, fun i => ?_⟩, ?_, q⟩
  ·by_cases hi : i < 4
   ·rw [show List.take 4 [x0, x1, x2, x3, x4, x5] = [x0, x1, x2, x3] from rfl, q i hi]; exact h.lt i
   ·unfold nt
    simp [List.getD, show ¬ i < 4 from hi]
  ·have h4 := h.lt 4
   have h5 := h.lt 5
   change x4 < _ at h4
   change x5 < _ at h5
   show valB _ [x0, x1, x2, x3] = _
   generalize hB : (18446744073709551616 : Nat) = B at *
   have e : valB B [x0, x1, x2, x3, x4, x5] = (x4 * B + x5) + B ^ 2 * valB B [x0, x1, x2, x3] := by
    simp [valB]
    grind
   have hlt : x4 * B + x5 < B ^ 2 := by
    have : (x4 + 1) * B ≤ B * B := Nat.mul_le_mul_right _ h4
    rw [Nat.succ_mul] at this
    rw [show B ^ 2 = B * B by grind]
    omega
   rw [e, Nat.add_mul_div_left _ _ (by omega), Nat.div_eq_of_lt hlt, Nat.zero_add]
theorem mul_done {a b o : List Nat} (ha : Wd 4 a) (hb : Wd 4 b) (ho : Wd 6 o) (h : valB 18446744073709551616 o = sumR 18446744073709551616 a b 4) : val4 (o.take 4) * 18446744073709551616 ^ 4 ≤ val4 a * val4 b ∧ val4 a * val4 b ≤ (val4 (o.take 4) + 2) * 18446744073709551616 ^ 4 := by
 obtain ⟨h1, h2⟩ := sumR_ok (B := 18446744073709551616) ha.len hb.len ha.lt hb.lt
 rw [(take4 ho).2.1, h]
 unfold val4
 have h3 := Nat.div_add_mod (sumR 18446744073709551616 a b 4) (18446744073709551616 ^ 2)
 have h4 := Nat.mod_lt (sumR 18446744073709551616 a b 4) (show 0 < 18446744073709551616 ^ 2 by decide)
 generalize sumR 18446744073709551616 a b 4 / 18446744073709551616 ^ 2 = Q at *
 generalize sumR 18446744073709551616 a b 4 % 18446744073709551616 ^ 2 = M at *
 generalize valB 18446744073709551616 a * valB 18446744073709551616 b = N at *
 rw [← h3] at h1 h2
 have hB : 3 ≤ (18446744073709551616 : Nat) := by decide
 generalize (18446744073709551616 : Nat) = B at *
 have e4 : B ^ 4 = B ^ 2 * B ^ 2 := by rw [← Nat.pow_add]
 have e3 : 3 * B ^ 3 ≤ B ^ 4 := by
  rw [show B ^ 4 = B * B ^ 3 by rw [← Nat.pow_succ']]
  exact Nat.mul_le_mul_right _ hB
 have h5 : M * B ^ 2 ≤ B ^ 4 := by rw [e4]; exact Nat.mul_le_mul_right _ (Nat.le_of_lt h4)
 have e5 : (B ^ 2 * Q + M) * B ^ 2 = Q * B ^ 4 + M * B ^ 2 := by rw [e4]; grind
 rw [e5] at h1 h2
 rw [Nat.add_mul]
 generalize Q * B ^ 4 = X at *
 generalize M * B ^ 2 = Y at *
 generalize B ^ 3 = Z at *
 generalize B ^ 4 = U at *
 constructor <;> omega
theorem zero6 : Wd 6 [0, 0, 0, 0, 0, 0] ∧ valB 18446744073709551616 [0, 0, 0, 0, 0, 0] = 0 := ⟨⟨rfl, fun i => by
 unfold nt
 match i with
 | 0 => decide
 | 1 => decide
 | 2 => decide
 | 3 => decide
 | 4 => decide
 | 5 => decide
 | i + 6 => simp⟩, by simp [valB]⟩
theorem zero6_cells : (#[.int .u64 0, .int .u64 0, .int .u64 0, .int .u64 0, .int .u64 0, .int .u64 0] : Array Value) = nuA [0, 0, 0, 0, 0, 0] := rfl
theorem one_call {P : Program} {f : FuncId} {args : Array Value} {v : Value} (h : ∀ W, Calls P f args W fun e w' => e = .returned v ∧ w' = W) (W : World) : Calls P f args W fun e w' => e = .returned v ∧ ∃ d, w' = bw W d :=
 (h W).mono fun _ _ ⟨h1, h2⟩ => ⟨h1, noExt _, by rw [bw_noExt]; exact h2⟩
set_option maxHeartbeats 4000000 in
set_option maxRecDepth 100000 in
theorem nm_mul (a b : List Nat) (ha : Wd 4 a) (hb : Wd 4 b) (w : World) :
  Calls Tryz.prog 322 #[nuV a, nuV b] w fun e w' => ∃ r d, e = .returned (nuV r) ∧ w' = bw w d ∧ Wd 4 r ∧ val4 r * 18446744073709551616 ^ 4 ≤ val4 a * val4 b ∧ val4 a * val4 b ≤ (val4 r + 2) * 18446744073709551616 ^ 4 := by
 refine lay_start ?_
 have hlt := sumR_lt ha.len hb.len ha.mem hb.mem (by decide)
 have HLT := Lib.hid hlt
 clear hlt
 unfold nuV
 go_enter Tryz.func322, Tryz.ntmps322
 go_wp2_with fail
 rw [← nuA_four ha.len, ← nuA_four hb.len, zero6_cells]
 go_loopw [6, 7, 8, 9, 10, 11, 12, 13] (fun v6 _ _ _ _ _ _ _ wr => ∃ (k : Nat) (o : List Nat) (d : Ext), k ≤ 4 ∧ v6 = .int .i64 ((k : Int) - 1) ∧ wr = lay w [.inr d, .inl (.cells (nuA o) 371 (0, 0)), .inl (.cells #[.int .u64 0, .int .u64 0, .int .u64 0, .int .u64 0] 355 (0, 0)), .inl (.cells (nuA b) 355 (0, 0)), .inl (.cells (nuA a) 355 (0, 0))] ∧ Wd 6 o ∧ valB 18446744073709551616 o = sumR 18446744073709551616 a b (4 - k)) (fun v6 _ _ _ _ _ _ _ _ => (intOf v6 + 1).toNat)
 case atStart => exact ⟨4, _, noExt _, Nat.le_refl _, rfl, (bw_noExt _).symm, zero6.1, zero6.2⟩
 case round =>
  obtain ⟨k, o, d, hk, rfl, rfl, ho, hV⟩ := hrel
  have HO := Lib.hid (And.intro ho hV)
  clear ho hV
  rcases k with _ | i
  ·rw [show ((0 : Nat) : Int) - 1 = -1 from rfl]
   have hT := take4 HO.out.1
   have g0 := nuA_get (l := o) (i := 0) (by rw [HO.out.1.len]; decide)
   have g1 := nuA_get (l := o) (i := 1) (by rw [HO.out.1.len]; decide)
   have g2 := nuA_get (l := o) (i := 2) (by rw [HO.out.1.len]; decide)
   have g3 := nuA_get (l := o) (i := 3) (by rw [HO.out.1.len]; decide)
   rw [← hT.2.2 0 (by decide)] at g0
   rw [← hT.2.2 1 (by decide)] at g1
   rw [← hT.2.2 2 (by decide)] at g2
   rw [← hT.2.2 3 (by decide)] at g3
   have HE := Lib.hid (And.intro hT.1 (mul_done ha hb HO.out.1 HO.out.2))
   have hat : ∀ W, (Instr.arrayAt 355 (.slice (some ⟨posn w [1, 1, 1], 0, none⟩) 4 6)).run Tryz.prog W = .ok (.pointer (some ⟨posn w [1, 1, 1], 0, none⟩)) W := fun W => run_arrayAt W 355 _ 4 _ 4 6 Tryz.underlying355 (by decide)
   clear hT
   generalize o.take 4 = r at *
   go_wp2_with fail
   obtain ⟨dz, ez⟩ := lay_all w [.inr d, .inl (.cells (nuA o) 371 (0, 0)), .inl (.cells #[.int .u64 (nt r 0 : Int), .int .u64 (nt r 1 : Int), .int .u64 (nt r 2 : Int), .int .u64 (nt r 3 : Int)] 355 (0, 0)), .inl (.cells (nuA b) 355 (0, 0)), .inl (.cells (nuA a) 355 (0, 0))]
   exact bodyPost_ret (v := .agg #[.int .u64 (nt r 0 : Int), .int .u64 (nt r 1 : Int), .int .u64 (nt r 2 : Int), .int .u64 (nt r 3 : Int)]) (by simp [results, Tryz.results322, go_sem]) rfl ⟨r, dz, rfl, ez, HE.out.1, HE.out.2⟩
  ·rw [show ((i + 1 : Nat) : Int) - 1 = (i : Int) by omega]
   have hi : i < 4 := by omega
   have x0 : (0 : Int) ≤ (i : Int) := by omega
   have x1 : (i : Int) < 4 := by omega
   have x2 : (i : Int).toNat = i := by omega
   go_wp2_with fail
   go_loopw [7, 8, 9, 10, 11, 12] (fun v7 v8 _ _ _ _ wr => ∃ (k c : Nat) (o : List Nat) (d : Ext), k ≤ 4 ∧ v7 = .int .u64 (c : Int) ∧ v8 = .int .i64 ((k : Int) - 1) ∧ wr = lay w [.inr d, .inl (.cells (nuA o) 371 (0, 0)), .inl (.cells #[.int .u64 0, .int .u64 0, .int .u64 0, .int .u64 0] 355 (0, 0)), .inl (.cells (nuA b) 355 (0, 0)), .inl (.cells (nuA a) 355 (0, 0))] ∧ RowI a b i (sumR 18446744073709551616 a b (3 - i)) o k c) (fun _ v8 _ _ _ _ _ => (intOf v8 + 1).toNat)
   case atStart =>
    have hs := RowI.start (a := a) (b := b) (i := i) HO.out.1
    rw [HO.out.2, show 4 - (i + 1) = 3 - i by omega] at hs
    exact ⟨4, 0, o, d, Nat.le_refl _, rfl, rfl, rfl, hs⟩
   case round =>
    obtain ⟨k, c, o, dd, hk, rfl, rfl, rfl, hR⟩ := hrel
    have HR := Lib.hid hR
    clear hR HO
    rcases k with _ | j
    ·rw [show ((0 : Nat) : Int) - 1 = -1 from rfl]
     have HC := Lib.hid (HR.out.car hi)
     clear HR
     rw [show sumR 18446744073709551616 a b (3 - i) + nt a i * rowM 18446744073709551616 b i 4 = sumR 18446744073709551616 a b (4 - i) by
      rw [show 4 - i = 3 - i + 1 by omega]
      show _ = nt a (3 - (3 - i)) * rowM 18446744073709551616 b (3 - (3 - i)) 4 + sumR 18446744073709551616 a b (3 - i)
      rw [show 3 - (3 - i) = i by omega, Nat.add_comm]] at HC
     have hTl : sumR 18446744073709551616 a b (4 - i) < 18446744073709551616 ^ 6 := Nat.lt_of_le_of_lt (sumR_le (by omega)) HLT.out
     have HTL := Lib.hid hTl
     clear hTl
     go_wp2_with fail
     go_loopw [7, 13] (fun v7 v13 wr => ∃ (q c : Nat) (o : List Nat) (d : Ext), q ≤ i + 1 ∧ v7 = .int .u64 (c : Int) ∧ v13 = .int .i64 ((q : Int) - 1) ∧ wr = lay w [.inr d, .inl (.cells (nuA o) 371 (0, 0)), .inl (.cells #[.int .u64 0, .int .u64 0, .int .u64 0, .int .u64 0] 355 (0, 0)), .inl (.cells (nuA b) 355 (0, 0)), .inl (.cells (nuA a) 355 (0, 0))] ∧ CarI (sumR 18446744073709551616 a b (4 - i)) o q c) (fun _ v13 _ => (intOf v13 + 1).toNat)
     case atStart => exact ⟨i + 1, c, o, dd, Nat.le_refl _, rfl, by first | rfl | exact congrArg (Value.int .i64) (by omega), rfl, HC.out⟩
     case round =>
      obtain ⟨q, c, o, d, hq, rfl, rfl, rfl, hC⟩ := hrel
      have HC := Lib.hid hC
      rcases q with _ | q
      ·rw [show ((0 : Nat) : Int) - 1 = -1 from rfl]
       have HF := Lib.hid (And.intro hC.wd (hC.done HTL.out (.inl rfl)))
       clear hC HC
       go_wp2_with fail
       exact ⟨⟨i, o, d, by omega, rfl, rfl, HF.out.1, HF.out.2⟩, by simp [intOf]⟩
      ·rw [show ((q + 1 : Nat) : Int) - 1 = (q : Int) by omega]
       have q0 : (0 : Int) ≤ (q : Int) := by omega
       by_cases hc0 : c = 0
       ·have c1 : ¬ (0 : Int) < (c : Int) := by omega
        have c2 : decide ((0 : Int) < (c : Int)) = false := decide_eq_false c1
        have c3 : ¬ 0 < c := by omega
        have HF := Lib.hid (And.intro hC.wd (hC.done HTL.out (.inr hc0)))
        clear hC HC hc0
        go_wp2_with fail
        exact ⟨⟨i, o, d, by omega, rfl, rfl, HF.out.1, HF.out.2⟩, by simp [intOf]⟩
       ·have c1 : (0 : Int) < (c : Int) := by omega
        have c2 : decide ((0 : Int) < (c : Int)) = true := decide_eq_true c1
        have c3 : 0 < c := by omega
        have q1 : (q : Int) < 6 := by omega
        have q2 : (q : Int).toNat = q := by omega
        obtain ⟨X, hX⟩ : ∃ X, nt o q = X := ⟨_, rfl⟩
        have g0 := nuA_get (l := o) (i := q) (by rw [hC.wd.len]; omega)
        rw [hX] at g0
        obtain ⟨SS, CC, hSS, hCC, e1, e2, e3⟩ := add_word (x := X) (y := c) (c := 0) (B := 18446744073709551616) (by rw [← hX]; exact hC.wd.lt q) hC.cB (by omega)
        have hcall : ∀ W, (callFunc 297 #[.int .u64 (X : Int), .int .u64 (c : Int), .int .u64 0]).run Tryz.prog W = .ok (.value (.tuple #[.int .u64 (SS : Int), .int .u64 (CC : Int)])) W := fun W => by
         have := add64 X c 0 (by omega) W
         rw [e1, e2] at this
         exact this
        have HN := Lib.hid (hC.step (by omega) hSS hCC (by rw [hX]; exact e3))
        clear hC HC e1 e2 e3 hX hc0
        go_wp2_with fail
        rw [nuA_set]
        exact ⟨⟨q, CC, o.set q SS, d, by omega, rfl, rfl, rfl, HN.out⟩, by simp [intOf]⟩
    ·rw [show ((j + 1 : Nat) : Int) - 1 = (j : Int) by omega]
     have hj : j < 4 := by omega
     have y0 : (0 : Int) ≤ (j : Int) := by omega
     have y1 : (j : Int) < 4 := by omega
     have y2 : (j : Int).toNat = j := by omega
     have w1 : IntKind.i64.wrap ((i : Int) + (j : Int)) = (i : Int) + (j : Int) := IntWalk.i64_in _ (by omega)
     by_cases hs : 4 < i + j
     ·have z1 : (4 : Int) < (i : Int) + (j : Int) := by omega
      have HN := Lib.hid (HR.out.skip hj hs)
      go_wp2_with fail
      exact ⟨⟨j, c, o, dd, by omega, rfl, rfl, rfl, HN.out⟩, by simp [intOf]⟩
     ·have z1 : ¬ (4 : Int) < (i : Int) + (j : Int) := by omega
      have hs2 : i + j ≤ 4 := by omega
      have w2 : IntKind.i64.wrap ((i : Int) + (j : Int) + 1) = (i : Int) + (j : Int) + 1 := IntWalk.i64_in _ (by omega)
      have w4 : (0 : Int) ≤ (i : Int) + (j : Int) + 1 := by omega
      have w5 : (i : Int) + (j : Int) + 1 < 6 := by omega
      have w6 : ((i : Int) + (j : Int) + 1).toNat = i + j + 1 := by omega
      obtain ⟨X, hX⟩ : ∃ X, nt a i = X := ⟨_, rfl⟩
      obtain ⟨Y, hY⟩ : ∃ Y, nt b j = Y := ⟨_, rfl⟩
      obtain ⟨O, hO⟩ : ∃ O, nt o (i + j + 1) = O := ⟨_, rfl⟩
      have g0 := nuA_get (l := a) (i := i) (by rw [ha.len]; exact hi)
      have g1 := nuA_get (l := b) (i := j) (by rw [hb.len]; exact hj)
      have g2 := nuA_get (l := o) (i := i + j + 1) (by rw [HR.out.wd.len]; omega)
      rw [hX] at g0
      rw [hY] at g1
      rw [hO] at g2
      have hXl : X < 18446744073709551616 := by rw [← hX]; exact ha.lt i
      have hYl : Y < 18446744073709551616 := by rw [← hY]; exact hb.lt j
      obtain ⟨HI, LO, S1, C1, S2, C2, e1, e2, e3, e4, e5, e6, hC1, hC2, hS2, hS1, hLO, hH, e7⟩ := row_word (x := X) (y := Y) (o := O) (c := c) (B := 18446744073709551616) hXl hYl (by rw [← hO]; exact HR.out.wd.lt _) HR.out.cB
      have HM := Lib.hid (one_call (fun W => Tryz.bits_Mul64 X Y hXl hYl W))
      rw [e1, e2] at HM
      have hcall1 : ∀ W, (callFunc 297 #[.int .u64 (O : Int), .int .u64 (LO : Int), .int .u64 0]).run Tryz.prog W = .ok (.value (.tuple #[.int .u64 (S1 : Int), .int .u64 (C1 : Int)])) W := fun W => by
       have := add64 O LO 0 (by omega) W
       rw [e3, e4] at this
       exact this
      have hcall2 : ∀ W, (callFunc 297 #[.int .u64 (S1 : Int), .int .u64 (c : Int), .int .u64 0]).run Tryz.prog W = .ok (.value (.tuple #[.int .u64 (S2 : Int), .int .u64 (C2 : Int)])) W := fun W => by
       have := add64 S1 c 0 (by omega) W
       rw [e5, e6] at this
       exact this
      have kH1 : IntKind.u64.wrap ((HI : Int) + (C1 : Int)) = (HI : Int) + (C1 : Int) := IntWalk.u64_in _ (by omega)
      have kH2 : IntKind.u64.wrap ((HI : Int) + (C1 : Int) + (C2 : Int)) = (HI : Int) + (C1 : Int) + (C2 : Int) := IntWalk.u64_in _ (by omega)
      have HN := Lib.hid (HR.out.step hj hs2 hS2 hH (by rw [hX, hY, hO]; exact e7))
      clear HR e1 e2 e3 e4 e5 e6 e7 hX hY hO hXl hYl hs
      go_wp2_with fail
      refine region_mixW [0, 0, 0, 0, 0, 0, 0, 0, 0, 0, 0, 0] (by kernel_rfl) (by kernel_rfl) (by kernel_rfl) ?_
      repeat (first | (refine wpM_quiet (fun K hK => ?_); go_simp; first | (refine hK _ ?_; clear hK K) | (apply Exists.intro; refine ⟨fun _ => ?_, hK _ ?_⟩; (first | (go_at_call 296; exact bq (HM.out _) (fun d => ⟨d, rfl⟩))); clear hK K)) | (refine wpM_special (fun K hK d => ?_); go_simp; refine hK _ _ (by first | exact lay_in w [_] _ | exact lay_in w [_, _] _ | exact lay_in w [_, _, _] _ | exact lay_in w [_, _, _, _] _ | exact lay_in w [_, _, _, _, _] _ | exact lay_in w [_, _, _, _, _, _] _) ?_; clear hK K))
      refine wpM_nil ?_
      intro d
      rw [lay_bw]
      go_wp2_with fail
      rw [nuA_set]
      obtain ⟨d3, e3⟩ := lay_fold w [.inr d, .inr dd] [.inl (.cells (nuA (o.set (i + j + 1) S2)) 371 (0, 0)), .inl (.cells #[.int .u64 0, .int .u64 0, .int .u64 0, .int .u64 0] 355 (0, 0)), .inl (.cells (nuA b) 355 (0, 0)), .inl (.cells (nuA a) 355 (0, 0))]
      change lay w [.inr d, .inr dd, .inl (.cells (nuA (o.set (i + j + 1) S2)) 371 (0, 0)), .inl (.cells #[.int .u64 0, .int .u64 0, .int .u64 0, .int .u64 0] 355 (0, 0)), .inl (.cells (nuA b) 355 (0, 0)), .inl (.cells (nuA a) 355 (0, 0))] = _ at e3
      rw [e3]
      exact ⟨⟨j, HI + C1 + C2, o.set (i + j + 1) S2, d3, by omega, by first | rfl | exact congrArg (Value.int .u64) (by omega), rfl, rfl, HN.out⟩, by simp [intOf]⟩
structure RowF (a b : List Nat) (i V0 : Nat) (o : List Nat) (j c : Nat) : Prop where
 wd : Wd 8 o
 cB : c < 18446744073709551616
 zero : ∀ q, q ≤ i → nt o q = 0
 eq : valB 18446744073709551616 o + c * 18446744073709551616 ^ (7 - (i + j)) = V0 + nt a i * valB 18446744073709551616 (b.drop j) * 18446744073709551616 ^ (3 - i)
theorem RowF.start {a b o : List Nat} {i : Nat} (hb : Wd 4 b) (h : Wd 8 o) (hz : ∀ q, q ≤ i → nt o q = 0) : RowF a b i (valB 18446744073709551616 o) o 4 0 := ⟨h, by decide, hz, by
 rw [List.drop_eq_nil_of_le (by rw [hb.len]; exact Nat.le_refl 4)]
 simp [valB]⟩
theorem row_eq {B V V' V0 ai bj W R Q P s op c c' : Nat} (h : V + c * P = V0 + ai * W * Q) (hs : V' + op * P = V + s * P) (e : s + c' * B = op + ai * bj + c) (hP : R * Q = P) : V' + c' * (P * B) = V0 + ai * (bj * R + W) * Q := by
 have e2 : (s + c' * B) * P = (op + ai * bj + c) * P := by rw [e]
 subst hP
 grind
theorem RowF.step {a b o : List Nat} {i V0 j c s c' : Nat} (h : RowF a b i V0 o (j + 1) c) (hb : Wd 4 b) (hi : i < 4) (hj : j < 4) (hsB : s < 18446744073709551616) (hc : c' < 18446744073709551616) (e : s + c' * 18446744073709551616 = nt o (i + j + 1) + nt a i * nt b j + c) : RowF a b i V0 (o.set (i + j + 1) s) j c' := by
 refine ⟨h.wd.set (by omega) hsB, hc, fun q hq => ?_, ?_⟩
 ·rw [nt_set (by rw [h.wd.len]; omega), if_neg (by omega)]
  exact h.zero q hq
 ·have hv := valB_set (B := 18446744073709551616) (x := s) (l := o) (p := i + j + 1) (by rw [h.wd.len]; omega)
  have he := h.eq
  rw [h.wd.len, show 8 - (i + j + 1) - 1 = 7 - (i + (j + 1)) by omega] at hv
  rw [valB_drop (l := b) (by rw [hb.len]; exact hj), hb.len, show 7 - (i + j) = 7 - (i + (j + 1)) + 1 by omega, Nat.pow_succ]
  exact row_eq he hv e (by rw [← Nat.pow_add]; congr 1; omega)
theorem RowF.done {a b o : List Nat} {i V0 c : Nat} (h : RowF a b i V0 o 0 c) (hi : i < 4) : Wd 8 (o.set i c) ∧ (∀ q, q < i → nt (o.set i c) q = 0) ∧ valB 18446744073709551616 (o.set i c) = V0 + nt a i * val4 b * 18446744073709551616 ^ (3 - i) := by
 refine ⟨h.wd.set (by omega) h.cB, fun q hq => ?_, ?_⟩
 ·rw [nt_set (by rw [h.wd.len]; omega), if_neg (by omega)]
  exact h.zero q (by omega)
 ·have hv := valB_set (B := 18446744073709551616) (x := c) (l := o) (p := i) (by rw [h.wd.len]; omega)
  have he := h.eq
  rw [h.wd.len, h.zero i (Nat.le_refl i), show 8 - i - 1 = 7 - (i + 0) by omega] at hv
  rw [List.drop_zero] at he
  unfold val4
  omega
theorem zero8 : Wd 8 [0, 0, 0, 0, 0, 0, 0, 0] ∧ valB 18446744073709551616 [0, 0, 0, 0, 0, 0, 0, 0] = 0 := ⟨⟨rfl, fun i => by
 unfold nt
 rcases i with _ | _ | _ | _ | _ | _ | _ | _ | i <;> simp [List.getD]⟩, by simp [valB]⟩
theorem zero8_nt (q : Nat) : nt [0, 0, 0, 0, 0, 0, 0, 0] q = 0 := by
 unfold nt
 rcases q with _ | _ | _ | _ | _ | _ | _ | _ | q <;> simp [List.getD]
theorem zero8_cells : (#[.int .u64 0, .int .u64 0, .int .u64 0, .int .u64 0, .int .u64 0, .int .u64 0, .int .u64 0, .int .u64 0] : Array Value) = nuA [0, 0, 0, 0, 0, 0, 0, 0] := rfl
theorem mid_eq {B o0 o1 o2 o3 o4 o5 o6 o7 : Nat} (h5 : o5 < B) (h6 : o6 < B) (h7 : o7 < B) (hlt : o0 * B ^ 7 + (o1 * B ^ 6 + (o2 * B ^ 5 + (o3 * B ^ 4 + (o4 * B ^ 3 + (o5 * B ^ 2 + (o6 * B + o7)))))) < B ^ 7) : o1 * B ^ 3 + (o2 * B ^ 2 + (o3 * B + o4)) = (o0 * B ^ 7 + (o1 * B ^ 6 + (o2 * B ^ 5 + (o3 * B ^ 4 + (o4 * B ^ 3 + (o5 * B ^ 2 + (o6 * B + o7))))))) / B ^ 3 := by
 have hB : 0 < B := by omega
 have h0 : o0 = 0 := by
  rcases Nat.eq_zero_or_pos o0 with h | h
  ·exact h
  ·have := Nat.mul_le_mul_right (B ^ 7) h
   omega
 subst h0
 have hb : o5 * B ^ 2 + (o6 * B + o7) < B ^ 3 := by
  have h1 := Nat.mul_le_mul_right (B ^ 2) (show o5 + 1 ≤ B from h5)
  have h2 := Nat.mul_le_mul_right B (show o6 + 1 ≤ B from h6)
  have e3 : B ^ 3 = B * B ^ 2 := by rw [Nat.pow_succ, Nat.mul_comm]
  have e2 : B ^ 2 = B * B := by rw [Nat.pow_succ, Nat.pow_one]
  rw [e3]
  rw [Nat.add_mul] at h1 h2
  rw [e2] at h1 ⊢
  omega
 have e : 0 * B ^ 7 + (o1 * B ^ 6 + (o2 * B ^ 5 + (o3 * B ^ 4 + (o4 * B ^ 3 + (o5 * B ^ 2 + (o6 * B + o7)))))) = (o5 * B ^ 2 + (o6 * B + o7)) + (o1 * B ^ 3 + (o2 * B ^ 2 + (o3 * B + o4))) * B ^ 3 := by grind
 rw [e, Nat.add_mul_div_right _ _ (Nat.pow_pos hB), Nat.div_eq_of_lt hb, Nat.zero_add]
theorem mid4 {o : List Nat} (h : Wd 8 o) (hlt : valB 18446744073709551616 o < 18446744073709551616 ^ 7) : Wd 4 ((o.drop 1).take 4) ∧ val4 ((o.drop 1).take 4) = valB 18446744073709551616 o / 18446744073709551616 ^ 3 ∧ ∀ i, i < 4 → nt ((o.drop 1).take 4) i = nt o (i + 1) := by
 obtain ⟨hl, hw⟩ := h
 match o, hl with
 | [o0, o1, o2, o3, o4, o5, o6, o7], _ =>
  have w1 : o1 < 18446744073709551616 := hw 1
  have w2 : o2 < 18446744073709551616 := hw 2
  have w3 : o3 < 18446744073709551616 := hw 3
  have w4 : o4 < 18446744073709551616 := hw 4
  have w5 : o5 < 18446744073709551616 := hw 5
  have w6 : o6 < 18446744073709551616 := hw 6
  have w7 : o7 < 18446744073709551616 := hw 7
  refine ⟨⟨rfl, fun i => ?_⟩, ?_, fun i hi => ?_⟩
  ·show nt [o1, o2, o3, o4] i < _
   unfold nt
   rcases i with _ | _ | _ | _ | i
   ·exact w1
   ·exact w2
   ·exact w3
   ·exact w4
   ·simp [List.getD]
  ·show valB 18446744073709551616 [o1, o2, o3, o4] = _
   simp only [valB, List.length_cons, List.length_nil, Nat.zero_add, Nat.reduceAdd, Nat.pow_zero, Nat.mul_one, Nat.pow_one, Nat.add_zero] at hlt ⊢
   generalize 18446744073709551616 = B at *
   exact mid_eq w5 w6 w7 hlt
  ·show nt [o1, o2, o3, o4] i = nt [o0, o1, o2, o3, o4, o5, o6, o7] (i + 1)
   rcases i with _ | _ | _ | _ | i
   ·rfl
   ·rfl
   ·rfl
   ·rfl
   ·omega
set_option maxHeartbeats 4000000 in
set_option maxRecDepth 100000 in
theorem qn_mul (a b : List Nat) (ha : Wd 4 a) (hb : Wd 4 b) (hab : val4 a * val4 b < 18446744073709551616 ^ 7) (w : World) :
  Calls Tryz.prog 294 #[nuV a, nuV b] w fun e w' => ∃ r d, e = .returned (nuV r) ∧ w' = bw w d ∧ Wd 4 r ∧ val4 r = val4 a * val4 b / 18446744073709551616 ^ 3 := by
 refine lay_start ?_
 have HLT := Lib.hid hab
 clear hab
 unfold nuV
 go_enter Tryz.func294, Tryz.ntmps294
 go_wp2_with fail
 rw [← nuA_four ha.len, ← nuA_four hb.len, zero8_cells]
 go_loopw [6, 7, 8, 9, 10, 11] (fun v6 _ _ _ _ _ wr => ∃ (k : Nat) (o : List Nat) (d : Ext), k ≤ 4 ∧ v6 = .int .i64 ((k : Int) - 1) ∧ wr = lay w [.inr d, .inl (.cells (nuA o) 359 (0, 0)), .inl (.cells #[.int .u64 0, .int .u64 0, .int .u64 0, .int .u64 0] 294 (0, 0)), .inl (.cells (nuA b) 294 (0, 0)), .inl (.cells (nuA a) 294 (0, 0))] ∧ Wd 8 o ∧ (∀ q, q < k → nt o q = 0) ∧ valB 18446744073709551616 o = valB 18446744073709551616 (a.drop k) * val4 b) (fun v6 _ _ _ _ _ _ => (intOf v6 + 1).toNat)
 case atStart => exact ⟨4, _, noExt _, Nat.le_refl _, rfl, (bw_noExt _).symm, zero8.1, fun q _ => zero8_nt q, by rw [zero8.2, List.drop_eq_nil_of_le (by rw [ha.len]; exact Nat.le_refl 4)]; simp [valB]⟩
 case round =>
  obtain ⟨k, o, d, hk, rfl, rfl, ho, hz, hV⟩ := hrel
  have HO := Lib.hid (And.intro ho (And.intro hz hV))
  clear ho hz hV
  rcases k with _ | i
  ·rw [show ((0 : Nat) : Int) - 1 = -1 from rfl]
   have hT := mid4 HO.out.1 (by rw [HO.out.2.2, List.drop_zero]; exact HLT.out)
   have hv : val4 ((o.drop 1).take 4) = val4 a * val4 b / 18446744073709551616 ^ 3 := by
    rw [hT.2.1, HO.out.2.2, List.drop_zero]; rfl
   have g0 := nuA_get (l := o) (i := 1) (by rw [HO.out.1.len]; decide)
   have g1 := nuA_get (l := o) (i := 2) (by rw [HO.out.1.len]; decide)
   have g2 := nuA_get (l := o) (i := 3) (by rw [HO.out.1.len]; decide)
   have g3 := nuA_get (l := o) (i := 4) (by rw [HO.out.1.len]; decide)
   rw [← hT.2.2 0 (by decide)] at g0
   rw [← hT.2.2 1 (by decide)] at g1
   rw [← hT.2.2 2 (by decide)] at g2
   rw [← hT.2.2 3 (by decide)] at g3
   have HE := Lib.hid (And.intro hT.1 hv)
   have hat : ∀ W, (Instr.arrayAt 294 (.slice (some ⟨posn w [1, 1, 1], 1, none⟩) 4 7)).run Tryz.prog W = .ok (.pointer (some ⟨posn w [1, 1, 1], 1, none⟩)) W := fun W => run_arrayAt W 294 _ 4 _ 4 7 Tryz.underlying294 (by decide)
   clear hT hv
   generalize (o.drop 1).take 4 = r at *
   go_wp2_with fail
   obtain ⟨dz, ez⟩ := lay_all w [.inr d, .inl (.cells (nuA o) 359 (0, 0)), .inl (.cells #[.int .u64 (nt r 0 : Int), .int .u64 (nt r 1 : Int), .int .u64 (nt r 2 : Int), .int .u64 (nt r 3 : Int)] 294 (0, 0)), .inl (.cells (nuA b) 294 (0, 0)), .inl (.cells (nuA a) 294 (0, 0))]
   exact bodyPost_ret (v := .agg #[.int .u64 (nt r 0 : Int), .int .u64 (nt r 1 : Int), .int .u64 (nt r 2 : Int), .int .u64 (nt r 3 : Int)]) (by simp [results, Tryz.results294, go_sem]) rfl ⟨r, dz, rfl, ez, HE.out.1, HE.out.2⟩
  ·rw [show ((i + 1 : Nat) : Int) - 1 = (i : Int) by omega]
   have hi : i < 4 := by omega
   have x0 : (0 : Int) ≤ (i : Int) := by omega
   have x1 : (i : Int) < 4 := by omega
   have x3 : (i : Int) < 8 := by omega
   have x2 : (i : Int).toNat = i := by omega
   go_wp2_with fail
   go_loopw [7, 8, 9, 10, 11] (fun v7 v8 _ _ _ wr => ∃ (k c : Nat) (o : List Nat) (d : Ext), k ≤ 4 ∧ v7 = .int .u64 (c : Int) ∧ v8 = .int .i64 ((k : Int) - 1) ∧ wr = lay w [.inr d, .inl (.cells (nuA o) 359 (0, 0)), .inl (.cells #[.int .u64 0, .int .u64 0, .int .u64 0, .int .u64 0] 294 (0, 0)), .inl (.cells (nuA b) 294 (0, 0)), .inl (.cells (nuA a) 294 (0, 0))] ∧ RowF a b i (valB 18446744073709551616 (a.drop (i + 1)) * val4 b) o k c) (fun _ v8 _ _ _ _ => (intOf v8 + 1).toNat)
   case atStart =>
    have hs := RowF.start (a := a) (b := b) (i := i) hb HO.out.1 (fun q hq => HO.out.2.1 q (by omega))
    rw [HO.out.2.2] at hs
    exact ⟨4, 0, o, d, Nat.le_refl _, rfl, rfl, rfl, hs⟩
   case round =>
    obtain ⟨k, c, o, dd, hk, rfl, rfl, rfl, hR⟩ := hrel
    have HR := Lib.hid hR
    clear hR HO
    rcases k with _ | j
    ·rw [show ((0 : Nat) : Int) - 1 = -1 from rfl]
     have hD := HR.out.done hi
     have e1 : valB 18446744073709551616 (a.drop (i + 1)) * val4 b + nt a i * val4 b * 18446744073709551616 ^ (3 - i) = valB 18446744073709551616 (a.drop i) * val4 b := by
      rw [valB_drop (l := a) (i := i) (by rw [ha.len]; exact hi), ha.len, show 4 - i - 1 = 3 - i by omega]
      generalize 18446744073709551616 ^ (3 - i) = P
      grind
     rw [e1] at hD
     have HD := Lib.hid hD
     have g0 := nuA_get (l := o) (i := i) (by rw [HR.out.wd.len]; omega)
     rw [HR.out.zero i (Nat.le_refl i)] at g0
     have hc : c < 18446744073709551616 := HR.out.cB
     have kc : IntKind.u64.wrap (c : Int) = (c : Int) := IntWalk.u64_in _ (by omega)
     clear HR hD e1
     go_wp2_with fail
     rw [nuA_set]
     exact ⟨⟨i, o.set i c, dd, by omega, rfl, rfl, HD.out⟩, by simp [intOf]⟩
    ·rw [show ((j + 1 : Nat) : Int) - 1 = (j : Int) by omega]
     have hj : j < 4 := by omega
     have y0 : (0 : Int) ≤ (j : Int) := by omega
     have y1 : (j : Int) < 4 := by omega
     have y2 : (j : Int).toNat = j := by omega
     have w1 : IntKind.i64.wrap ((i : Int) + (j : Int)) = (i : Int) + (j : Int) := IntWalk.i64_in _ (by omega)
     have w2 : IntKind.i64.wrap ((i : Int) + (j : Int) + 1) = (i : Int) + (j : Int) + 1 := IntWalk.i64_in _ (by omega)
     have w4 : (0 : Int) ≤ (i : Int) + (j : Int) + 1 := by omega
     have w5 : (i : Int) + (j : Int) + 1 < 8 := by omega
     have w6 : ((i : Int) + (j : Int) + 1).toNat = i + j + 1 := by omega
     obtain ⟨X, hX⟩ : ∃ X, nt a i = X := ⟨_, rfl⟩
     obtain ⟨Y, hY⟩ : ∃ Y, nt b j = Y := ⟨_, rfl⟩
     obtain ⟨O, hO⟩ : ∃ O, nt o (i + j + 1) = O := ⟨_, rfl⟩
     have g0 := nuA_get (l := a) (i := i) (by rw [ha.len]; exact hi)
     have g1 := nuA_get (l := b) (i := j) (by rw [hb.len]; exact hj)
     have g2 := nuA_get (l := o) (i := i + j + 1) (by rw [HR.out.wd.len]; omega)
     rw [hX] at g0
     rw [hY] at g1
     rw [hO] at g2
     have hXl : X < 18446744073709551616 := by rw [← hX]; exact ha.lt i
     have hYl : Y < 18446744073709551616 := by rw [← hY]; exact hb.lt j
     obtain ⟨HI, LO, S1, C1, S2, C2, e1, e2, e3, e4, e5, e6, hC1, hC2, hS2, hS1, hLO, hH, e7⟩ := row_word (x := X) (y := Y) (o := O) (c := c) (B := 18446744073709551616) hXl hYl (by rw [← hO]; exact HR.out.wd.lt _) HR.out.cB
     have HM := Lib.hid (one_call (fun W => Tryz.bits_Mul64 X Y hXl hYl W))
     rw [e1, e2] at HM
     have hcall1 : ∀ W, (callFunc 297 #[.int .u64 (LO : Int), .int .u64 (O : Int), .int .u64 0]).run Tryz.prog W = .ok (.value (.tuple #[.int .u64 (S1 : Int), .int .u64 (C1 : Int)])) W := fun W => by
      have := add64 LO O 0 (by omega) W
      rw [Nat.add_comm LO O, e3, e4] at this
      exact this
     have hcall2 : ∀ W, (callFunc 297 #[.int .u64 (S1 : Int), .int .u64 (c : Int), .int .u64 0]).run Tryz.prog W = .ok (.value (.tuple #[.int .u64 (S2 : Int), .int .u64 (C2 : Int)])) W := fun W => by
      have := add64 S1 c 0 (by omega) W
      rw [e5, e6] at this
      exact this
     have kH1 : IntKind.u64.wrap ((HI : Int) + (C1 : Int)) = (HI : Int) + (C1 : Int) := IntWalk.u64_in _ (by omega)
     have kH2 : IntKind.u64.wrap ((HI : Int) + (C1 : Int) + (C2 : Int)) = (HI : Int) + (C1 : Int) + (C2 : Int) := IntWalk.u64_in _ (by omega)
     have HN := Lib.hid (HR.out.step hb hi hj hS2 hH (by rw [hX, hY, hO]; omega))
     clear HR e1 e2 e3 e4 e5 e6 e7 hX hY hO hXl hYl
     go_wp2_with fail
     refine region_mixW [0, 0, 0, 0, 0, 0, 0, 0, 0, 0, 0, 0] (by kernel_rfl) (by kernel_rfl) (by kernel_rfl) ?_
     repeat (first | (refine wpM_quiet (fun K hK => ?_); go_simp; first | (refine hK _ ?_; clear hK K) | (apply Exists.intro; refine ⟨fun _ => ?_, hK _ ?_⟩; (first | (go_at_call 296; exact bq (HM.out _) (fun d => ⟨d, rfl⟩))); clear hK K)) | (refine wpM_special (fun K hK d => ?_); go_simp; refine hK _ _ (by first | exact lay_in w [_] _ | exact lay_in w [_, _] _ | exact lay_in w [_, _, _] _ | exact lay_in w [_, _, _, _] _ | exact lay_in w [_, _, _, _, _] _ | exact lay_in w [_, _, _, _, _, _] _) ?_; clear hK K))
     refine wpM_nil ?_
     intro d
     rw [lay_bw]
     go_wp2_with fail
     rw [nuA_set]
     obtain ⟨d3, e3⟩ := lay_fold w [.inr d, .inr dd] [.inl (.cells (nuA (o.set (i + j + 1) S2)) 359 (0, 0)), .inl (.cells #[.int .u64 0, .int .u64 0, .int .u64 0, .int .u64 0] 294 (0, 0)), .inl (.cells (nuA b) 294 (0, 0)), .inl (.cells (nuA a) 294 (0, 0))]
     change lay w [.inr d, .inr dd, .inl (.cells (nuA (o.set (i + j + 1) S2)) 359 (0, 0)), .inl (.cells #[.int .u64 0, .int .u64 0, .int .u64 0, .int .u64 0] 294 (0, 0)), .inl (.cells (nuA b) 294 (0, 0)), .inl (.cells (nuA a) 294 (0, 0))] = _ at e3
     rw [e3]
     exact ⟨⟨j, HI + C1 + C2, o.set (i + j + 1) S2, d3, by omega, by first | rfl | exact congrArg (Value.int .u64) (by omega), rfl, rfl, HN.out⟩, by simp [intOf]⟩
theorem part_u64 {xs : Array Value} {off : Nat} {v : Value} (hx : xs[off]? = some v) (W : World) : (part 292 xs off).run Tryz.prog W = .ok v W := run_part_plain W (by kernel_rfl) hx
theorem eql_u64 (d : Nat) (a b : Int) (W : World) : (Op.equalIn (d + 1) 292 (.int .u64 a) (.int .u64 b)).run Tryz.prog W = .ok (a == b) W := run_equalIn_int W d _ _ _ a b Tryz.underlying292
set_option maxRecDepth 100000 in
theorem neq_num (x0 x1 x2 x3 : Int) (W : World) : (binOp .neq 294 (.agg #[.int .u64 x0, .int .u64 x1, .int .u64 x2, .int .u64 x3]) (.agg #[.int .u64 0, .int .u64 0, .int .u64 0, .int .u64 0])).run Tryz.prog W = .ok (.bool (!(x0 == 0 && (x1 == 0 && (x2 == 0 && x3 == 0))))) W := by
 obtain ⟨i, hi⟩ : ∃ i, Tryz.prog.info? 292 = some i := ⟨_, rfl⟩
 have hc : Tryz.prog.cellsOf 292 = 1 := by kernel_rfl
 rw [run_neq_struct, run_equalIn_array W 9999 _ _ Tryz.underlying294 hi, hc]
 have hr : List.range 4 = [0, 1, 2, 3] := rfl
 rw [hr]
 have e := eql_u64 9998
 simp only [Op.eqItems, Sem.run_bind]
 rw [part_u64 (v := .int .u64 x0) rfl]
 simp only [Result.andThen_ok]
 rw [part_u64 (v := .int .u64 0) rfl]
 simp only [Result.andThen_ok]
 rw [e]
 cases h0 : (x0 == 0)
 ·simp [Result.andThen]
 ·simp only [Result.andThen_ok, Bool.not_true, Bool.false_eq_true, if_false, Bool.true_and, Sem.run_bind]
  rw [part_u64 (v := .int .u64 x1) rfl]
  simp only [Result.andThen_ok]
  rw [part_u64 (v := .int .u64 0) rfl]
  simp only [Result.andThen_ok]
  rw [e]
  cases h1 : (x1 == 0)
  ·simp [Result.andThen]
  ·simp only [Result.andThen_ok, Bool.not_true, Bool.false_eq_true, if_false, Bool.true_and, Sem.run_bind]
   rw [part_u64 (v := .int .u64 x2) rfl]
   simp only [Result.andThen_ok]
   rw [part_u64 (v := .int .u64 0) rfl]
   simp only [Result.andThen_ok]
   rw [e]
   cases h2 : (x2 == 0)
   ·simp [Result.andThen]
   ·simp only [Result.andThen_ok, Bool.not_true, Bool.false_eq_true, if_false, Bool.true_and, Sem.run_bind]
    rw [part_u64 (v := .int .u64 x3) rfl]
    simp only [Result.andThen_ok]
    rw [part_u64 (v := .int .u64 0) rfl]
    simp only [Result.andThen_ok]
    rw [e]
    cases h3 : (x3 == 0)
    ·simp [Result.andThen]
    ·simp [Result.andThen]
end Go.Proofs.YtcbicpbbjbkiaaaGreatDoor
namespace Go.Proofs.YtcbicpbbjbkiaaaGreatDoor

def rotV (c1 s1 K : Nat) : Nat → Nat × Nat
 | 0 => (0, K)
 | r + 1 => (((rotV c1 s1 K r).1 * c1 + (rotV c1 s1 K r).2 * s1) / K, ((rotV c1 s1 K r).2 * c1 - (rotV c1 s1 K r).1 * s1) / K)
def gapV (G G2 M x : Nat) : Prop := G2 ≤ (x + G) % M
noncomputable def rotB (c1 s1 K G G2 M se ce n : Nat) : Nat → Nat → Bool := Nat.rec (motive := fun _ => Nat → Nat → Bool) (fun s c => Bool.rec false (Nat.beq c ce) (Nat.beq s se)) (fun _ ih s c => Bool.rec false (Bool.rec false (ih (Nat.div (Nat.add (Nat.mul s c1) (Nat.mul c s1)) K) (Nat.div (Nat.sub (Nat.mul c c1) (Nat.mul s s1)) K)) (Nat.ble G2 (Nat.mod (Nat.add c G) M))) (Nat.ble G2 (Nat.mod (Nat.add s G) M))) n
noncomputable def rotC (c1 s1 K G G2 M se ce n : Nat) : Nat → Nat → Bool := Nat.rec (motive := fun _ => Nat → Nat → Bool) (fun s c => Bool.rec false (Nat.beq c ce) (Nat.beq s se)) (fun _ ih s c => Bool.rec false (ih (Nat.div (Nat.add (Nat.mul s c1) (Nat.mul c s1)) K) (Nat.div (Nat.sub (Nat.mul c c1) (Nat.mul s s1)) K)) (Nat.ble G2 (Nat.mod (Nat.add c G) M))) n
section
variable {c1 s1 K G G2 M : Nat}
theorem rec_true {b c : Bool} (h : (Bool.rec false c b : Bool) = true) : b = true ∧ c = true := by
 cases b
 ·cases h
 ·exact ⟨rfl, h⟩
theorem rotB_ok {se ce : Nat} : ∀ (n s c : Nat), rotB c1 s1 K G G2 M se ce n s c = true → ∀ a, rotV c1 s1 K a = (s, c) → rotV c1 s1 K (a + n) = (se, ce) ∧ ∀ r, a ≤ r → r < a + n → gapV G G2 M (rotV c1 s1 K r).1 ∧ gapV G G2 M (rotV c1 s1 K r).2
 | 0, s, c, h, a, ha => by
  obtain ⟨h1, h2⟩ := rec_true h
  rw [Nat.eq_of_beq_eq_true h1, Nat.eq_of_beq_eq_true h2] at ha
  exact ⟨ha, fun r h3 h4 => by omega⟩
 | n + 1, s, c, h, a, ha => by
  obtain ⟨h1, h⟩ := rec_true h
  obtain ⟨h2, h3⟩ := rec_true h
  have ha1 : rotV c1 s1 K (a + 1) = (_, _) := rfl
  rw [ha] at ha1
  obtain ⟨e, g⟩ := rotB_ok n _ _ h3 (a + 1) ha1
  refine ⟨by rw [show a + (n + 1) = a + 1 + n by omega]; exact e, fun r h4 h5 => ?_⟩
  by_cases hr : r = a
  ·subst hr
   rw [ha]
   exact ⟨Nat.le_of_ble_eq_true h1, Nat.le_of_ble_eq_true h2⟩
  ·exact g r (by omega) (by omega)
theorem rotC_ok {se ce : Nat} : ∀ (n s c : Nat), rotC c1 s1 K G G2 M se ce n s c = true → ∀ a, rotV c1 s1 K a = (s, c) → rotV c1 s1 K (a + n) = (se, ce) ∧ ∀ r, a ≤ r → r < a + n → gapV G G2 M (rotV c1 s1 K r).2
 | 0, s, c, h, a, ha => by
  obtain ⟨h1, h2⟩ := rec_true h
  rw [Nat.eq_of_beq_eq_true h1, Nat.eq_of_beq_eq_true h2] at ha
  exact ⟨ha, fun r h3 h4 => by omega⟩
 | n + 1, s, c, h, a, ha => by
  obtain ⟨h2, h3⟩ := rec_true h
  have ha1 : rotV c1 s1 K (a + 1) = (_, _) := rfl
  rw [ha] at ha1
  obtain ⟨e, g⟩ := rotC_ok n _ _ h3 (a + 1) ha1
  refine ⟨by rw [show a + (n + 1) = a + 1 + n by omega]; exact e, fun r h4 h5 => ?_⟩
  by_cases hr : r = a
  ·subst hr
   rw [ha]
   exact Nat.le_of_ble_eq_true h2
  ·exact g r (by omega) (by omega)
def RotTo (c1 s1 K G G2 M t a s c : Nat) : Prop := rotV c1 s1 K a = (s, c) ∧ ∀ r, 1 ≤ r → r < a → (r ≠ t → gapV G G2 M (rotV c1 s1 K r).1) ∧ gapV G G2 M (rotV c1 s1 K r).2
theorem RotTo.next {t a s c : Nat} (h : RotTo c1 s1 K G G2 M t a s c) (n se ce : Nat) (hb : rotB c1 s1 K G G2 M se ce n s c = true) {b : Nat} (he : a + n = b) : RotTo c1 s1 K G G2 M t b se ce := by
 obtain ⟨e, g⟩ := rotB_ok n s c hb a h.1
 subst he
 refine ⟨e, fun r h1 h2 => ?_⟩
 by_cases h3 : r < a
 ·exact h.2 r h1 h3
 ·obtain ⟨g1, g2⟩ := g r (by omega) h2
  exact ⟨fun _ => g1, g2⟩
theorem RotTo.third {t s c : Nat} (h : RotTo c1 s1 K G G2 M t t s c) (se ce : Nat) (hb : rotC c1 s1 K G G2 M se ce 1 s c = true) : RotTo c1 s1 K G G2 M t (t + 1) se ce := by
 obtain ⟨e, g⟩ := rotC_ok 1 s c hb t h.1
 refine ⟨e, fun r h1 h2 => ?_⟩
 by_cases h3 : r < t
 ·exact h.2 r h1 h3
 ·exact ⟨fun h4 => absurd (show r = t by omega) h4, g r (by omega) h2⟩
end
def rotN : Nat → Nat × Nat := rotV 79228162514260985610427347966 23046538269650701392778 79228162514264337593543950336
def gapN (x : Nat) : Prop := gapV 17592186044416 35184372088832 73786976294838206464 x
def RotN (a s c : Nat) : Prop := RotTo 79228162514260985610427347966 23046538269650701392778 79228162514264337593543950336 17592186044416 35184372088832 73786976294838206464 1800000 a s c

set_option maxRecDepth 100000
theorem rot_1 : RotN 1 23046538269650701392778 79228162514260985610427347966 := ⟨by decide +kernel, fun r h1 h2 => by omega⟩
theorem rot_20000 : RotN 20000 460928165257782747133751160 79226821724799442177664039471 := rot_1.next 19999 _ _ (by decide +kernel) rfl
theorem rot_40000 : RotN 40000 921840729809744759336718960 79222799401785497629060284431 := rot_20000.next 20000 _ _ (by decide +kernel) rfl
theorem rot_60000 : RotN 60000 1382722093478091229468835334 79216095681363193075345593734 := rot_40000.next 20000 _ _ (by decide +kernel) rfl
theorem rot_80000 : RotN 80000 1843556657141061334255680740 79206710790428557216212028656 := rot_60000.next 20000 _ _ (by decide +kernel) rfl
theorem rot_100000 : RotN 100000 2304328823260900547536745651 79194645046625278735888876120 := rot_80000.next 20000 _ _ (by decide +kernel) rfl
theorem rot_120000 : RotN 120000 2765022996411779340785892170 79179898858333955244482121641 := rot_100000.next 20000 _ _ (by decide +kernel) rfl
theorem rot_140000 : RotN 140000 3225623583807640402817478032 79162472724658271112078710668 := rot_120000.next 20000 _ _ (by decide +kernel) rfl
theorem rot_160000 : RotN 160000 3686114995829956513010966548 79142367235408104663444560421 := rot_140000.next 20000 _ _ (by decide +kernel) rfl
theorem rot_180000 : RotN 180000 4146481646555381205410893138 79119583071079565305075014104 := rot_160000.next 20000 _ _ (by decide +kernel) rfl
theorem rot_200000 : RotN 200000 4606707954283274364687686050 79094121002831961260266816836 := rot_180000.next 20000 _ _ (by decide +kernel) rfl
theorem rot_220000 : RotN 220000 5066778342063084899177936238 79065981892461698691768204195 := rot_200000.next 20000 _ _ (by decide +kernel) rfl
theorem rot_240000 : RotN 240000 5526677238221572641060115448 79035166692373113095424824483 := rot_220000.next 20000 _ _ (by decide +kernel) rfl
theorem rot_260000 : RotN 260000 5986389076889851629163310971 79001676445546233952070443513 := rot_240000.next 20000 _ _ (by decide +kernel) rfl
theorem rot_280000 : RotN 280000 6445898298530236935952074450 78965512285501483728709196452 := rot_260000.next 20000 _ _ (by decide +kernel) rfl
theorem rot_300000 : RotN 300000 6905189350462877206879787152 78926675436261312423797035255 := rot_280000.next 20000 _ _ (by decide +kernel) rfl
theorem rot_320000 : RotN 320000 7364246687392155087555779829 78885167212308768955150468159 := rot_300000.next 20000 _ _ (by decide +kernel) rfl
theorem rot_340000 : RotN 340000 7823054771932837722027583112 78840989018543010792687182658 := rot_320000.next 20000 _ _ (by decide +kernel) rfl
theorem rot_360000 : RotN 360000 8281598075135959513938847803 78794142350231753341832180360 := rot_340000.next 20000 _ _ (by decide +kernel) rfl
theorem rot_380000 : RotN 380000 8739861077014419351385379951 78744628792960660687001121558 := rot_360000.next 20000 _ _ (by decide +kernel) rfl
theorem rot_400000 : RotN 400000 9197828267068274505956081328 78692450022579679408096174711 := rot_380000.next 20000 _ _ (by decide +kernel) rfl
theorem rot_420000 : RotN 420000 9655484144809713426712034959 78637607805146317286415286259 := rot_400000.next 20000 _ _ (by decide +kernel) rfl
theorem rot_440000 : RotN 440000 10112813220287689660725190434 78580103996865868819779928130 := rot_420000.next 20000 _ _ (by decide +kernel) rfl
theorem rot_460000 : RotN 460000 10569800014612199143267710114 78519940544028589570025545411 := rot_440000.next 20000 _ _ (by decide +kernel) rfl
theorem rot_480000 : RotN 480000 11026429060478183112813647977 78457119482943821469269612297 := rot_460000.next 20000 _ _ (by decide +kernel) rfl
theorem rot_500000 : RotN 500000 11482684902689038918685846473 78391642939871071314570923579 := rot_480000.next 20000 _ _ (by decide +kernel) rfl
theorem rot_520000 : RotN 520000 11938552098679721002452307813 78323513130948044783716999635 := rot_500000.next 20000 _ _ (by decide +kernel) rfl
theorem rot_540000 : RotN 540000 12394015219039414348047396818 78252732362115638407920782863 := rot_520000.next 20000 _ _ (by decide +kernel) rfl
theorem rot_560000 : RotN 560000 12849058848033762710063574980 78179303029039892040169656607 := rot_540000.next 20000 _ _ (by decide +kernel) rfl
theorem rot_580000 : RotN 580000 13303667584126633944728472130 78103227617030904460845749951 := rot_560000.next 20000 _ _ (by decide +kernel) rfl
theorem rot_600000 : RotN 600000 13757826040501404783749453604 78024508700958714865023008727 := rot_580000.next 20000 _ _ (by decide +kernel) rfl
theorem rot_620000 : RotN 620000 14211518845581747407472916848 77943148945166153078540147767 := rot_600000.next 20000 _ _ (by decide +kernel) rfl
theorem rot_640000 : RotN 640000 14664730643551900190667792397 77859151103378661452545864581 := rot_620000.next 20000 _ _ (by decide +kernel) rfl
theorem rot_660000 : RotN 660000 15117446094876405011701564085 77772518018611091488710129464 := rot_640000.next 20000 _ _ (by decide +kernel) rfl
theorem rot_680000 : RotN 680000 15569649876819293533931970550 77683252623071478349689493218 := rot_660000.next 20000 _ _ (by decide +kernel) rfl
theorem rot_700000 : RotN 700000 16021326683962704886787794412 77591357938061796511721706703 := rot_680000.next 20000 _ _ (by decide +kernel) rfl
theorem rot_720000 : RotN 720000 16472461228724917193257151448 77496837073875699918402072426 := rot_700000.next 20000 _ _ (by decide +kernel) rfl
theorem rot_740000 : RotN 740000 16923038241877775410340815333 77399693229693250096757376251 := rot_720000.next 20000 _ _ (by decide +kernel) rfl
theorem rot_760000 : RotN 760000 17373042473063497969460675222 77299929693472635798679535189 := rot_740000.next 20000 _ _ (by decide +kernel) rfl
theorem rot_780000 : RotN 780000 17822458691310844724838737287 77197549841838887832606782277 := rot_760000.next 20000 _ _ (by decide +kernel) rfl
theorem rot_800000 : RotN 800000 18271271685550628739479433931 77092557139969592852041859433 := rot_780000.next 20000 _ _ (by decide +kernel) rfl
theorem rot_820000 : RotN 820000 18719466265130554460596663336 76984955141477609969070846630 := rot_800000.next 20000 _ _ (by decide +kernel) rfl
theorem rot_840000 : RotN 840000 19167027260329364859126195781 76874747488290794162489494822 := rot_820000.next 20000 _ _ (by decide +kernel) rfl
theorem rot_860000 : RotN 860000 19613939522870280131353082592 76761937910528730551452811717 := rot_840000.next 20000 _ _ (by decide +kernel) rfl
theorem rot_880000 : RotN 880000 20060187926433710584661692833 76646530226376483706734744798 := rot_860000.next 20000 _ _ (by decide +kernel) rfl
theorem rot_900000 : RotN 900000 20505757367169226353982174085 76528528341955366272714692188 := rot_880000.next 20000 _ _ (by decide +kernel) rfl
theorem rot_920000 : RotN 920000 20950632764206766620660652793 76407936251190731274092829947 := rot_900000.next 20000 _ _ (by decide +kernel) rfl
theorem rot_940000 : RotN 940000 21394799060167071031220507758 76284758035676792582073456704 := rot_920000.next 20000 _ _ (by decide +kernel) rfl
theorem rot_960000 : RotN 960000 21838241221671316039807693052 76158997864538478115341318255 := rot_940000.next 20000 _ _ (by decide +kernel) rfl
theorem rot_980000 : RotN 980000 22280944239849938925023467648 76030659994290320451586774866 := rot_960000.next 20000 _ _ (by decide +kernel) rfl
theorem rot_1000000 : RotN 1000000 22722893130850632259342090390 75899748768692389625608322817 := rot_980000.next 20000 _ _ (by decide +kernel) rfl
theorem rot_1020000 : RotN 1020000 23164072936345491637388138885 75766268618603272990131971946 := rot_1000000.next 20000 _ _ (by decide +kernel) rfl
theorem rot_1040000 : RotN 1040000 23604468724037299498007151432 75630224061830107115432941466 := rot_1020000.next 20000 _ _ (by decide +kernel) rfl
theorem rot_1060000 : RotN 1060000 24044065588164927904303306196 75491619702975666803622664769 := rot_1040000.next 20000 _ _ (by decide +kernel) rfl
theorem rot_1080000 : RotN 1080000 24482848650007843175637852254 75350460233282516393069832387 := rot_1060000.next 20000 _ _ (by decide +kernel) rfl
theorem rot_1100000 : RotN 1100000 24920803058389695295980979683 75206750430474228627854763204 := rot_1080000.next 20000 _ _ (by decide +kernel) rfl
theorem rot_1120000 : RotN 1120000 25357913990180975053986737073 75060495158593676466408424465 := rot_1100000.next 20000 _ _ (by decide +kernel) rfl
theorem rot_1140000 : RotN 1140000 25794166650800721901714421721 74911699367838403302557552228 := rot_1120000.next 20000 _ _ (by decide +kernel) rfl
theorem rot_1160000 : RotN 1160000 26229546274717265551049513812 74760368094393077171082210796 := rot_1140000.next 20000 _ _ (by decide +kernel) rfl
theorem rot_1180000 : RotN 1180000 26664038125947984359581616095 74606506460259034608588417775 := rot_1160000.next 20000 _ _ (by decide +kernel) rfl
theorem rot_1200000 : RotN 1200000 27097627498558063590974883844 74450119673080919939002817175 := rot_1180000.next 20000 _ _ (by decide +kernel) rfl
theorem rot_1220000 : RotN 1220000 27530299717158236668716960439 74291213025970425851305465876 := rot_1200000.next 20000 _ _ (by decide +kernel) rfl
theorem rot_1240000 : RotN 1240000 27962040137401492576554332862 74129791897327141235227288419 := rot_1220000.next 20000 _ _ (by decide +kernel) rfl
theorem rot_1260000 : RotN 1260000 28392834146478732593914112070 73965861750656512338547323497 := rot_1240000.next 20000 _ _ (by decide +kernel) rfl
theorem rot_1280000 : RotN 1280000 28822667163613359590173351057 73799428134384923407328223663 := rot_1260000.next 20000 _ _ (by decide +kernel) rfl
theorem rot_1300000 : RotN 1300000 29251524640554783137765930628 73630496681671903067923272266 := rot_1280000.next 20000 _ _ (by decide +kernel) rfl
theorem rot_1320000 : RotN 1320000 29679392062070823740812546257 73459073110219462806871140071 := rot_1300000.next 20000 _ _ (by decide +kernel) rfl
theorem rot_1340000 : RotN 1340000 30106254946438999513220179829 73285163222078574001862437614 := rot_1320000.next 20000 _ _ (by decide +kernel) rfl
theorem rot_1360000 : RotN 1360000 30532098845936678678022371879 73108772903452790053811531594 := rot_1340000.next 20000 _ _ (by decide +kernel) rfl
theorem rot_1380000 : RotN 1380000 30956909347330081298119347819 72929908124499020266694815910 := rot_1360000.next 20000 _ _ (by decide +kernel) rfl
theorem rot_1400000 : RotN 1400000 31380672072362113687526293158 72748574939125462218219382705 := rot_1380000.next 20000 _ _ (by decide +kernel) rfl
theorem rot_1420000 : RotN 1420000 31803372678239018991747499118 72564779484786699460560564913 := rot_1400000.next 20000 _ _ (by decide +kernel) rfl
theorem rot_1440000 : RotN 1440000 32224996858115827465962378905 72378527982275971486349869516 := rot_1420000.next 20000 _ _ (by decide +kernel) rfl
theorem rot_1460000 : RotN 1460000 32645530341580590020335121657 72189826735514622990803134144 := rot_1440000.next 20000 _ _ (by decide +kernel) rfl
theorem rot_1480000 : RotN 1480000 33064958895137378642941640306 71998682131338739556349084922 := rot_1460000.next 20000 _ _ (by decide +kernel) rfl
theorem rot_1500000 : RotN 1500000 33483268322688037352544079001 71805100639282976981347617965 := rot_1480000.next 20000 _ _ (by decide +kernel) rfl
theorem rot_1520000 : RotN 1520000 33900444466012667375733069513 71609088811361591569471848346 := rot_1500000.next 20000 _ _ (by decide +kernel) rfl
theorem rot_1540000 : RotN 1540000 34316473205248830285799727052 71410653281846678791065051015 := rot_1520000.next 20000 _ _ (by decide +kernel) rfl
theorem rot_1560000 : RotN 1560000 34731340459369452884091607914 71209800767043627822269855932 := rot_1540000.next 20000 _ _ (by decide +kernel) rfl
theorem rot_1580000 : RotN 1580000 35145032186659417648548046480 71006538065063799561959250592 := rot_1560000.next 20000 _ _ (by decide +kernel) rfl
theorem rot_1600000 : RotN 1600000 35557534385190822618598952907 70800872055594435820473905770 := rot_1580000.next 20000 _ _ (by decide +kernel) rfl
theorem rot_1620000 : RotN 1620000 35968833093296894630645792401 70592809699665807467884884974 := rot_1600000.next 20000 _ _ (by decide +kernel) rfl
theorem rot_1640000 : RotN 1640000 36378914390044539863922542111 70382358039415609422951761876 := rot_1620000.next 20000 _ _ (by decide +kernel) rfl
theorem rot_1660000 : RotN 1660000 36787764395705515702656406319 70169524197850610457130380374 := rot_1640000.next 20000 _ _ (by decide +kernel) rfl
theorem rot_1680000 : RotN 1680000 37195369272226207967111387892 69954315378605565880898805169 := rot_1660000.next 20000 _ _ (by decide +kernel) rfl
theorem rot_1700000 : RotN 1700000 37601715223695997613300897125 69736738865699401272311273669 := rot_1680000.next 20000 _ _ (by decide +kernel) rfl
theorem rot_1720000 : RotN 1720000 38006788496814201048896824951 69516802023288675500055039928 := rot_1700000.next 20000 _ _ (by decide +kernel) rfl
theorem rot_1740000 : RotN 1740000 38410575381355568261140296499 69294512295418331385370776745 := rot_1720000.next 20000 _ _ (by decide +kernel) rfl
theorem rot_1760000 : RotN 1760000 38813062210634323001372030088 69069877205769742439000545439 := rot_1740000.next 20000 _ _ (by decide +kernel) rfl
theorem rot_1780000 : RotN 1780000 39214235361966729320146189381 68842904357406064200845158799 := rot_1760000.next 20000 _ _ (by decide +kernel) rfl
theorem rot_1800000 : RotN 1800000 39614081257132168796769176610 68613601432514898801241945494 := rot_1780000.next 20000 _ _ (by decide +kernel) rfl
theorem rot_1800001 : RotN 1800001 39614101216018103612977511171 68613589909242861073359214917 := rot_1800000.third _ _ (by decide +kernel)
theorem rot_1820000 : RotN 1820000 40012586362832712857512274522 68381976192148281453711389914 := rot_1800001.next 19999 _ _ (by decide +kernel) rfl
theorem rot_1840000 : RotN 1840000 40409737191151174627682700163 68148036475959997679663790724 := rot_1820000.next 20000 _ _ (by decide +kernel) rfl
theorem rot_1860000 : RotN 1860000 40805520300007624814199764225 67911790201940240155901887365 := rot_1840000.next 20000 _ _ (by decide +kernel) rfl
theorem rot_1880000 : RotN 1880000 41199922293614356167309691552 67673245366147614165799286753 := rot_1860000.next 20000 _ _ (by decide +kernel) rfl
theorem rot_1900000 : RotN 1900000 41592929822929281122582487534 67432410042438500724774437019 := rot_1880000.next 20000 _ _ (by decide +kernel) rfl
theorem rot_1920000 : RotN 1920000 41984529586107747277365262694 67189292382193786540112803339 := rot_1900000.next 20000 _ _ (by decide +kernel) rfl
theorem rot_1940000 : RotN 1940000 42374708328952755409416853622 66943900614042970054312773711 := rot_1920000.next 20000 _ _ (by decide +kernel) rfl
theorem rot_1960000 : RotN 1960000 42763452845363564799516587677 66696243043585652909940647508 := rot_1940000.next 20000 _ _ (by decide +kernel) rfl
theorem rot_1980000 : RotN 1980000 43150749977782670674423810829 66446328053110426262473824785 := rot_1960000.next 20000 _ _ (by decide +kernel) rfl
theorem rot_2000000 : RotN 2000000 43536586617641138641662472511 66194164101311161455786033129 := rot_1980000.next 20000 _ _ (by decide +kernel) rfl
theorem rot_2020000 : RotN 2020000 43920949705802281043214785710 65939759723000714662781108160 := rot_2000000.next 20000 _ _ (by decide +kernel) rfl
theorem rot_2040000 : RotN 2040000 44303826233003660211327863651 65683123528822055181209514367 := rot_2020000.next 20000 _ _ (by decide +kernel) rfl
theorem rot_2060000 : RotN 2060000 44685203240297403666265382465 65424264204956827161901493966 := rot_2040000.next 20000 _ _ (by decide +kernel) rfl
theorem rot_2080000 : RotN 2080000 45065067819488816352970811475 65163190512831354633519507667 := rot_2060000.next 20000 _ _ (by decide +kernel) rfl
theorem rot_2100000 : RotN 2100000 45443407113573275071247659155 64899911288820099774467544304 := rot_2080000.next 20000 _ _ (by decide +kernel) rfl
theorem rot_2120000 : RotN 2120000 45820208317171390312203548871 64634435443946584468792998057 := rot_2100000.next 20000 _ _ (by decide +kernel) rfl
theorem rot_2140000 : RotN 2140000 46195458676962420772346799893 64366771963581785268775223281 := rot_2120000.next 20000 _ _ (by decide +kernel) rfl
theorem rot_2160000 : RotN 2160000 46569145492115925875864558053 64096929907140011972410673207 := rot_2140000.next 20000 _ _ (by decide +kernel) rfl
theorem rot_2180000 : RotN 2180000 46941256114721641695248396431 63824918407772280109174815535 := rot_2160000.next 20000 _ _ (by decide +kernel) rfl
theorem rot_2200000 : RotN 2200000 47311777950217565720564672654 63550746672057187712262910946 := rot_2180000.next 20000 _ _ (by decide +kernel) rfl
theorem rot_2220000 : RotN 2220000 47680698457816235988290746380 63274423979689306839982369201 := rot_2200000.next 20000 _ _ (by decide +kernel) rfl
theorem rot_2240000 : RotN 2240000 48048005150929190141752380803 62995959683165100393085907937 := rot_2220000.next 20000 _ _ (by decide +kernel) rfl
theorem rot_2260000 : RotN 2260000 48413685597589590056800206540 62715363207466374858594272903 := rot_2240000.next 20000 _ _ (by decide +kernel) rfl
theorem rot_2280000 : RotN 2280000 48777727420872997728451923122 62432644049741279694057015781 := rot_2260000.next 20000 _ _ (by decide +kernel) rfl
theorem rot_2300000 : RotN 2300000 49140118299316288176799865900 62147811778982864149236927576 := rot_2280000.next 20000 _ _ (by decide +kernel) rfl
theorem rot_2320000 : RotN 2320000 49500845967334685193538537296 61860876035705202404875395621 := rot_2300000.next 20000 _ _ (by decide +kernel) rfl
theorem rot_2340000 : RotN 2340000 49859898215636905814001574835 61571846531617097990499384306 := rot_2320000.next 20000 _ _ (by decide +kernel) rfl
theorem rot_2360000 : RotN 2360000 50217262891638399463610242859 61280733049293378525163148757 := rot_2340000.next 20000 _ _ (by decide +kernel) rfl
theorem rot_2380000 : RotN 2380000 50572927899872667792123723428 60987545441843791906576406501 := rot_2360000.next 20000 _ _ (by decide +kernel) rfl
theorem rot_2400000 : RotN 2400000 50926881202400651274043073485 60692293632579515155252753689 := rot_2380000.next 20000 _ _ (by decide +kernel) rfl
theorem rot_2420000 : RotN 2420000 51279110819218168718953494658 60394987614677287201114868290 := rot_2400000.next 20000 _ _ (by decide +kernel) rfl
theorem rot_2440000 : RotN 2440000 51629604828661395901491327877 60095637450841176980413762871 := rot_2420000.next 20000 _ _ (by decide +kernel) rfl
theorem rot_2460000 : RotN 2460000 51978351367810369586990698691 59794253272961998290855309713 := rot_2440000.next 20000 _ _ (by decide +kernel) rfl
theorem rot_2480000 : RotN 2480000 52325338632890503295697760644 59490845281774382932475752385 := rot_2460000.next 20000 _ _ (by decide +kernel) rfl
theorem rot_2500000 : RotN 2500000 52670554879672101215735744894 59185423746511523741066244095 := rot_2480000.next 20000 _ _ (by decide +kernel) rfl
theorem rot_2520000 : RotN 2520000 53013988423867856742759251004 58877999004557599199811932963 := rot_2500000.next 20000 _ _ (by decide +kernel) rfl
theorem rot_2540000 : RotN 2540000 53355627641528322192449113656 58568581461097891393281078019 := rot_2520000.next 20000 _ _ (by decide +kernel) rfl
theorem rot_2560000 : RotN 2560000 53695460969435336300667439775 58257181588766609145971471169 := rot_2540000.next 20000 _ _ (by decide +kernel) rfl
theorem rot_2580000 : RotN 2580000 54033476905493396195213711632 57943809927292428265292415906 := rot_2560000.next 20000 _ _ (by decide +kernel) rfl
theorem rot_2600000 : RotN 2600000 54369664009118960592694849305 57628477083141760886128046247 := rot_2580000.next 20000 _ _ (by decide +kernel) rfl
theorem rot_2620000 : RotN 2620000 54704010901627671044042470892 57311193729159765990989245098 := rot_2600000.next 20000 _ _ (by decide +kernel) rfl
theorem rot_2640000 : RotN 2640000 55036506266619478122676905063 56991970604209113256214231991 := rot_2620000.next 20000 _ _ (by decide +kernel) rfl
theorem rot_2660000 : RotN 2660000 55367138850361659520227418281 56670818512806512450719459651 := rot_2640000.next 20000 _ _ (by decide +kernel) rfl
theorem rot_2680000 : RotN 2680000 55695897462169717086069217130 56347748324757020689430198459 := rot_2660000.next 20000 _ _ (by decide +kernel) rfl
theorem rot_2700000 : RotN 2700000 56022770974786139918727653830 56022770974786139918731555141 := rot_2680000.next 20000 _ _ (by decide +kernel) rfl
theorem rot_2700001 : RotN 2700001 56022787271147263054027597928 56022754678420276363447266336 := rot_2700000.next 1 _ _ (by decide +kernel) rfl
theorem rot_all {r : Nat} (h1 : 1 ≤ r) (h2 : r ≤ 2700000) : (r ≠ 1800000 → gapN (rotN r).1) ∧ gapN (rotN r).2 := rot_2700001.2 r h1 (by omega)
end Go.Proofs.YtcbicpbbjbkiaaaGreatDoor
namespace Go.Proofs.YtcbicpbbjbkiaaaGreatDoor

theorem nfl {a K : Nat} (hK : 0 < K) : Nr (((a / K : Nat) : Rat)) ((a : Rat) / (K : Rat)) 1 := by
 have h1 := Nat.div_add_mod a K
 have h2 := Nat.mod_lt a hK
 have hK2 : (0 : Rat) < (K : Rat) := by exact_mod_cast hK
 have e1 : (a : Rat) = (K : Rat) * ((a / K : Nat) : Rat) + ((a % K : Nat) : Rat) := by exact_mod_cast h1.symm
 have e2 : ((a % K : Nat) : Rat) ≤ (K : Rat) := by exact_mod_cast Nat.le_of_lt h2
 have e3 : (0 : Rat) ≤ ((a % K : Nat) : Rat) := by exact_mod_cast Nat.zero_le _
 have e4 : (a : Rat) / (K : Rat) = ((a / K : Nat) : Rat) + ((a % K : Nat) : Rat) / (K : Rat) := by rw [e1]; grind
 have e5 : (0 : Rat) ≤ ((a % K : Nat) : Rat) / (K : Rat) := by rw [Rat.div_def]; exact rmul0 e3 (Rat.le_of_lt (Rat.inv_pos.2 hK2))
 have e6 : ((a % K : Nat) : Rat) / (K : Rat) ≤ 1 := by
  refine Rat.le_of_mul_le_mul_right (c := (K : Rat)) ?_ hK2
  rw [Rat.div_mul_cancel (by grind)]
  grind
 rw [e4]
 constructor <;> grind
theorem xi_in {n : Nat} (h : n ≤ 2700001) : 0 ≤ xi n ∧ xi n ≤ 4 / 5 := by
 have h1 : (piN : Rat) * 3437000 ≤ (piD : Rat) := by exact_mod_cast (show piN * 3437000 ≤ piD by decide +kernel)
 have hd : (0 : Rat) < (piD : Rat) := by exact_mod_cast (show 0 < piD by decide +kernel)
 have h2 : (0 : Rat) ≤ (piN : Rat) := by exact_mod_cast Nat.zero_le _
 have q0 : (0 : Rat) ≤ (piN : Rat) / (piD : Rat) := by rw [Rat.div_def]; exact rmul0 h2 (Rat.le_of_lt (Rat.inv_pos.2 hd))
 have q1 : (piN : Rat) / (piD : Rat) ≤ 1 / 3437000 := by
  refine Rat.le_of_mul_le_mul_right (c := (piD : Rat)) ?_ hd
  rw [Rat.div_mul_cancel (by grind)]
  grind
 have hn : (n : Rat) ≤ 2700001 := by exact_mod_cast h
 have hn0 : (0 : Rat) ≤ (n : Rat) := by exact_mod_cast Nat.zero_le _
 unfold xi
 refine ⟨rmul0 hn0 q0, ?_⟩
 have := rmul hn0 hn q0 q1
 grind
theorem xi_one : 0 ≤ xi 1 ∧ xi 1 ≤ 1 / 3437000 := by
 have h1 : (piN : Rat) * 3437000 ≤ (piD : Rat) := by exact_mod_cast (show piN * 3437000 ≤ piD by decide +kernel)
 have hd : (0 : Rat) < (piD : Rat) := by exact_mod_cast (show 0 < piD by decide +kernel)
 refine ⟨(xi_in (by decide)).1, ?_⟩
 unfold xi
 refine Rat.le_of_mul_le_mul_right (c := (piD : Rat)) ?_ hd
 have : ((1 : Nat) : Rat) * ((piN : Rat) / (piD : Rat)) * (piD : Rat) = (piN : Rat) := by
  rw [Rat.mul_assoc, Rat.div_mul_cancel (by grind)]
  simp
 rw [this]
 grind
theorem sq_in {x : Rat} (h : 0 ≤ x ∧ x ≤ 4 / 5) : 0 ≤ x * x ∧ x * x ≤ 16 / 25 := by
 refine ⟨rmul0 h.1 h.1, ?_⟩
 have := rmul h.1 h.2 h.1 h.2
 grind
theorem cos_in {n : Nat} (h : n ≤ 2700001) : 17 / 25 ≤ cosT n ∧ cosT n ≤ 1 := by
 have hq := sq_in (xi_in h)
 obtain ⟨a, b⟩ := tay_in hq.1 (by grind) (m := 14) (d := 1) (by decide)
 unfold cosT
 constructor <;> grind
theorem sin_in {n : Nat} (h : n ≤ 2700001) : 0 ≤ sinT n ∧ sinT n ≤ xi n := by
 have hx := xi_in h
 have hq := sq_in hx
 obtain ⟨a, b⟩ := tay_in hq.1 (by grind) (m := 14) (d := 2) (by decide)
 unfold sinT
 generalize tay (xi n * xi n) 2 14 = t at *
 have h1 := rmul0 hx.1 (show 0 ≤ 1 - t by grind)
 have h2 := rmul0 hx.1 a
 constructor <;> grind
def k96 : Rat := 79228162514264337593543950336
theorem one_ab : (evI lisS 1 * 79228162514264337593543950336 - 23046538269650701392778 * (facW : Int)).natAbs ≤ facW ∧ (evI lisC 1 * 79228162514264337593543950336 - 79228162514260985610427347966 * (facW : Int)).natAbs ≤ facW := by decide +kernel
theorem one_near : Nr (23046538269650701392778 / k96) (sinT 1) (1 / k96) ∧ Nr (79228162514260985610427347966 / k96) (cosT 1) (1 / k96) := by
 have h2 := lisS_ok 1
 have h3 := lisC_ok 1
 have hW := facW_rat
 have hk : (0 : Rat) < k96 := by decide +kernel
 have hM : (facW : Rat) ≤ 1 / k96 * ((facW : Rat) * k96) := by
  have : 1 / k96 * ((facW : Rat) * k96) = (facW : Rat) := by grind
  rw [this]; exact Rat.le_refl
 have hp : (0 : Rat) < (facW : Rat) * k96 := Rat.mul_pos hW hk
 constructor
 ·refine (nr_of_int (W := (facW : Rat) * k96) (x := evI lisS 1 * 79228162514264337593543950336 - 23046538269650701392778 * (facW : Int)) hp ?_ one_ab.1 hM).symm
  push_cast at h2 ⊢
  rw [← h2]
  unfold k96
  grind
 ·refine (nr_of_int (W := (facW : Rat) * k96) (x := evI lisC 1 * 79228162514264337593543950336 - 79228162514260985610427347966 * (facW : Int)) hp ?_ one_ab.2 hM).symm
  push_cast at h3 ⊢
  rw [← h3]
  unfold k96
  grind
theorem rot_step {K s c s1 c1 : Nat} {k S C S1 C1 e ep S' C' : Rat} (hK : 0 < K) (hk : k = (K : Rat)) (hs : Nr ((s : Rat) / k) S e) (hc : Nr ((c : Rat) / k) C e)
  (hs1 : Nr ((s1 : Rat) / k) S1 (1 / k)) (hc1 : Nr ((c1 : Rat) / k) C1 (1 / k)) (SS : S ≤ 4 / 5) (C0 : 17 / 25 ≤ C) (CC : C ≤ 1)
  (a0 : 0 ≤ S1) (a1 : S1 ≤ 1 / 3437000) (b0 : 17 / 25 ≤ C1) (b1 : C1 ≤ 1) (he : e ≤ 1 / 100) (hk1 : 1 / k ≤ 1 / 100)
  (hS' : Nr S' (S * C1 + C * S1) ep) (hC' : Nr C' (C * C1 - S * S1) ep) :
  Nr (((s * c1 + c * s1) / K : Nat) / k) S' (e + e / 3437000 + 4 / k + ep) ∧ Nr (((c * c1 - s * s1) / K : Nat) / k) C' (e + e / 3437000 + 4 / k + ep) := by
 have hk0 : (0 : Rat) < k := by rw [hk]; exact_mod_cast hK
 have hi : 0 < 1 / k := by rw [Rat.div_def, Rat.one_mul]; exact Rat.inv_pos.2 hk0
 have e0 := hs.pos
 have nn : ∀ a : Nat, (0 : Rat) ≤ (a : Rat) / k := fun a => by
  rw [Rat.div_def]; exact rmul0 (by exact_mod_cast Nat.zero_le _) (Rat.le_of_lt (Rat.inv_pos.2 hk0))
 have s0 := nn s
 have c0 := nn c
 have s10 := nn s1
 have sm : (s : Rat) / k ≤ 1 := by obtain ⟨h1, h2⟩ := hs; grind
 have cm : (c : Rat) / k ≤ 2 := by obtain ⟨h1, h2⟩ := hc; grind
 have cl : 1 / 2 ≤ (c : Rat) / k := by obtain ⟨h1, h2⟩ := hc; grind
 have c1l : 1 / 2 ≤ (c1 : Rat) / k := by obtain ⟨h1, h2⟩ := hc1; grind
 have s1m : (s1 : Rat) / k ≤ 1 / 50 := by obtain ⟨h1, h2⟩ := hs1; grind
 -- products
 have p1 := hs.mul hc1 s0 sm (show 0 ≤ C1 by grind) b1
 have p2 := hc.mul hs1 c0 cm a0 a1
 have p3 := hc.mul hc1 c0 cm (show 0 ≤ C1 by grind) b1
 have p4 := hs.mul hs1 s0 sm a0 a1
 have q1 := (p1.add p2)
 have q2 := (p3.sub p4)
 have fin : ∀ {x : Nat} {A B E : Rat}, (x : Rat) / k / k = A → Nr A B E → Nr (((x / K : Nat) : Rat) / k) B (1 / k + E) := fun {x A B E} h1 h2 => by
  have h3 := nfl (a := x) hK
  rw [← hk] at h3
  have h4 := h3.mulc (c := 1 / k) (m := 1 / k) (Rat.le_of_lt hi) (by grind) (by grind)
  have h5 : Nr (((x / K : Nat) : Rat) / k) A (1 / k) := by
   rw [← h1]
   have e1 : 1 / k * ((x / K : Nat) : Rat) = ((x / K : Nat) : Rat) / k := by grind
   have e2 : 1 / k * ((x : Rat) / k) = (x : Rat) / k / k := by grind
   rw [e1, e2] at h4
   exact h4.le (by grind)
  exact h5.trans h2
 constructor
 ·have := (fin (x := s * c1 + c * s1) (by push_cast; grind) q1).trans hS'.symm
  refine this.le ?_
  grind
 ·have hle : s * s1 ≤ c * c1 := by
   have h1 := rmul s0 sm s10 s1m
   have h2 := rmul (show (0 : Rat) ≤ 1 / 2 by grind) cl (show (0 : Rat) ≤ 1 / 2 by grind) c1l
   have h3 : (s : Rat) / k * ((s1 : Rat) / k) ≤ (c : Rat) / k * ((c1 : Rat) / k) := by grind
   have h4 := Rat.mul_le_mul_of_nonneg_right h3 (Rat.le_of_lt (Rat.mul_pos hk0 hk0))
   have h5 : (s : Rat) * (s1 : Rat) ≤ (c : Rat) * (c1 : Rat) := by
    have x1 : (s : Rat) / k * ((s1 : Rat) / k) * (k * k) = (s : Rat) * (s1 : Rat) := by grind
    have x2 : (c : Rat) / k * ((c1 : Rat) / k) * (k * k) = (c : Rat) * (c1 : Rat) := by grind
    rw [x1, x2] at h4; exact h4
   exact_mod_cast h5
  have hsub : ((c * c1 - s * s1 : Nat) : Rat) = (c : Rat) * c1 - (s : Rat) * s1 := by
   have h1 : c * c1 - s * s1 + s * s1 = c * c1 := Nat.sub_add_cancel hle
   have h2 : ((c * c1 - s * s1 : Nat) : Rat) + (s : Rat) * s1 = (c : Rat) * c1 := by exact_mod_cast h1
   grind
  have := (fin (x := c * c1 - s * s1) (by rw [hsub]; grind) q2).trans hC'.symm
  refine this.le ?_
  grind
theorem tay_zero : ∀ {m d : Nat}, tay 0 d m = 0
 | 0, _ => rfl
 | m + 1, d => by
  simp only [tay]
  rw [Rat.div_def, Rat.zero_mul, Rat.zero_mul]
theorem sin_zero : sinT 0 = 0 := by unfold sinT xi; grind
theorem cos_zero : cosT 0 = 1 := by
 have : xi 0 * xi 0 = 0 := by unfold xi; grind
 unfold cosT
 rw [this, tay_zero]
 grind
theorem rotN_succ (r : Nat) : rotN (r + 1) = (((rotN r).1 * 79228162514260985610427347966 + (rotN r).2 * 23046538269650701392778) / 79228162514264337593543950336, ((rotN r).2 * 79228162514260985610427347966 - (rotN r).1 * 23046538269650701392778) / 79228162514264337593543950336) := rfl
theorem rot_near : ∀ {r : Nat}, r ≤ 2700000 → Nr (((rotN r).1 : Rat) / k96) (sinT r) (64 * (r : Rat) / k96) ∧ Nr (((rotN r).2 : Rat) / k96) (cosT r) (64 * (r : Rat) / k96)
 | 0, _ => by
  rw [sin_zero, cos_zero, show rotN 0 = (0, 79228162514264337593543950336) from rfl]
  have hk : k96 / k96 = 1 := by unfold k96; grind
  constructor
  ·constructor <;> grind
  ·have : ((79228162514264337593543950336 : Nat) : Rat) / k96 = 1 := hk
   rw [this]
   constructor <;> grind
 | r + 1, h => by
  obtain ⟨h1, h2⟩ := rot_near (r := r) (by omega)
  obtain ⟨h3, h4⟩ := one_near
  have hx := xi_in (n := r) (by omega)
  have hs := sin_in (n := r) (by omega)
  have hc := cos_in (n := r) (by omega)
  have hs1 := sin_in (n := 1) (by omega)
  have hc1 := cos_in (n := 1) (by omega)
  have hx1 := xi_one
  have hr : (r : Rat) ≤ 2700000 := by exact_mod_cast (show r ≤ 2700000 by omega)
  have hr0 : (0 : Rat) ≤ (r : Rat) := by exact_mod_cast Nat.zero_le r
  have hki : 1 / k96 * k96 = 1 := by unfold k96; grind
  have hk : 0 < 1 / k96 ∧ 1 / k96 ≤ 1 / 10000000000000000000000000000 := by
   unfold k96
   constructor <;> grind
  have he : eps ≤ 1 / k96 := by unfold eps k96; grind
  have g1 : 64 * (r : Rat) / k96 ≤ 1 / 100 := by
   have := rmul hr0 hr (Rat.le_of_lt hk.1) hk.2
   grind
  have st := rot_step (K := 79228162514264337593543950336) (k := k96) (s1 := 23046538269650701392778) (c1 := 79228162514260985610427347966) (by decide) rfl h1 h2 h3 h4 (by grind) hc.1 hc.2 hs1.1 (by grind) hc1.1 hc1.2 g1 (by grind) (sin_step (n := r) (by omega)) (cos_step (n := r) (by omega))
  rw [rotN_succ]
  have e1 : 64 * (r : Rat) / k96 + 64 * (r : Rat) / k96 / 3437000 + 4 / k96 + eps ≤ 64 * ((r + 1 : Nat) : Rat) / k96 := by
   have h5 := rmul hr0 hr (Rat.le_of_lt hk.1) (show 1 / k96 ≤ 1 / k96 by exact Rat.le_refl)
   push_cast
   grind
  exact ⟨st.1.le e1, st.2.le e1⟩
def Bt (f : Nat) (v : Rat) : Prop := (f : Rat) / 1073741824 + 1000 / 4611686018427387904 ≤ v ∧ v ≤ ((f : Rat) + 1) / 1073741824 - 1000 / 4611686018427387904
theorem gap_ok {G M x : Nat} (hG : 2 * G < M) (h : gapV G (2 * G) M x) : x / M * M + G ≤ x ∧ x + G ≤ (x / M + 1) * M := by
 unfold gapV at h
 have hM : 0 < M := by omega
 have h1 := Nat.div_add_mod x M
 have h2 := Nat.mod_lt x hM
 rw [Nat.add_mod, Nat.mod_eq_of_lt (show G < M by omega)] at h
 rw [Nat.add_mul, Nat.one_mul, Nat.mul_comm]
 generalize x % M = y at *
 generalize M * (x / M) = z at *
 have h4 : G ≤ y ∧ y + G ≤ M := by
  by_cases h3 : y + G < M
  ·rw [Nat.mod_eq_of_lt h3] at h; omega
  ·rw [Nat.mod_eq_sub_mod (by omega), Nat.mod_eq_of_lt (by omega)] at h; omega
 omega
theorem bt_of {x r : Nat} {v : Rat} (hr : r ≤ 2700000) (h : gapN x) (hn : Nr ((x : Rat) / k96) v (64 * (r : Rat) / k96)) : Bt (x / 73786976294838206464) v := by
 obtain ⟨h1, h2⟩ := gap_ok (G := 17592186044416) (M := 73786976294838206464) (by decide) h
 generalize x / 73786976294838206464 = f at *
 have e1 : (f : Rat) * 73786976294838206464 + 17592186044416 ≤ (x : Rat) := by exact_mod_cast h1
 have e2 : (x : Rat) + 17592186044416 ≤ ((f : Rat) + 1) * 73786976294838206464 := by exact_mod_cast h2
 have hr2 : (r : Rat) ≤ 2700000 := by exact_mod_cast hr
 have hk : (0 : Rat) ≤ 1 / k96 := by unfold k96; grind
 obtain ⟨h3, h4⟩ := hn
 have e3 := Rat.mul_le_mul_of_nonneg_right e1 hk
 have e4 := Rat.mul_le_mul_of_nonneg_right e2 hk
 have e5 := Rat.mul_le_mul_of_nonneg_right hr2 hk
 unfold Bt
 unfold k96 at *
 constructor <;> grind
section
variable {B y : Nat}
def ChainN (B y : Nat) : Nat → Nat → Nat → Prop
 | _, 0, u => u = 0
 | d, m + 1, u => ∃ u' p, ChainN B y (d + 2) m u' ∧ p * B ≤ y / (d * (d + 1)) * u' ∧ y / (d * (d + 1)) * u' ≤ (p + 2) * B ∧ u + p = y / (d * (d + 1))
theorem dd_ge {d : Nat} (h : 1 ≤ d) : 2 ≤ d * (d + 1) := Nat.mul_le_mul h (show 2 ≤ d + 1 by omega)
theorem natB {a b B : Nat} (hB : 0 < B) (h : a ≤ b) : (a : Rat) / (B : Rat) ≤ (b : Rat) / (B : Rat) := by
 rw [Rat.div_def, Rat.div_def]
 exact Rat.mul_le_mul_of_nonneg_right (by exact_mod_cast h) (Rat.le_of_lt (Rat.inv_pos.2 (by exact_mod_cast hB)))
theorem nat0 {a B : Nat} (hB : 0 < B) : (0 : Rat) ≤ (a : Rat) / (B : Rat) := by
 rw [Rat.div_def]
 exact rmul0 (by exact_mod_cast Nat.zero_le a) (Rat.le_of_lt (Rat.inv_pos.2 (by exact_mod_cast hB)))
theorem nr_mul {a b p k B : Nat} (hB : 0 < B) (h1 : p * B ≤ a * b) (h2 : a * b ≤ (p + k) * B) : Nr ((p : Rat) / (B : Rat)) ((a : Rat) / (B : Rat) * ((b : Rat) / (B : Rat))) ((k : Rat) / (B : Rat)) := by
 have hB2 : (0 : Rat) < (B : Rat) := by exact_mod_cast hB
 have e1 : (p : Rat) * (B : Rat) ≤ (a : Rat) * (b : Rat) := by exact_mod_cast h1
 have e2 : (a : Rat) * (b : Rat) ≤ ((p : Rat) + (k : Rat)) * (B : Rat) := by exact_mod_cast h2
 have hBB := Rat.mul_pos hB2 hB2
 have x1 : (a : Rat) / (B : Rat) * ((b : Rat) / (B : Rat)) * ((B : Rat) * (B : Rat)) = (a : Rat) * (b : Rat) := by grind
 have x2 : (p : Rat) / (B : Rat) * ((B : Rat) * (B : Rat)) = (p : Rat) * (B : Rat) := by grind
 have x3 : (k : Rat) / (B : Rat) * ((B : Rat) * (B : Rat)) = (k : Rat) * (B : Rat) := by grind
 have k0 : (0 : Rat) ≤ (k : Rat) * (B : Rat) := rmul0 (by exact_mod_cast Nat.zero_le k) (Rat.le_of_lt hB2)
 constructor
 ·refine Rat.le_of_mul_le_mul_right (c := (B : Rat) * (B : Rat)) ?_ hBB
  rw [Rat.add_mul, x1, x2, x3]
  grind
 ·refine Rat.le_of_mul_le_mul_right (c := (B : Rat) * (B : Rat)) ?_ hBB
  rw [Rat.add_mul, x1, x2, x3]
  grind
theorem nr_div {y k B : Nat} (hB : 0 < B) (hk : 0 < k) : Nr (((y / k : Nat) : Rat) / (B : Rat)) ((y : Rat) / (B : Rat) / (k : Rat)) (1 / (B : Rat)) := by
 have h := nfl (a := y) hk
 have hB2 : (0 : Rat) < (B : Rat) := by exact_mod_cast hB
 have := h.mulc (c := 1 / (B : Rat)) (m := 1 / (B : Rat)) (by rw [Rat.div_def, Rat.one_mul]; exact Rat.le_of_lt (Rat.inv_pos.2 hB2)) Rat.le_refl (by grind)
 have e1 : 1 / (B : Rat) * ((y / k : Nat) : Rat) = ((y / k : Nat) : Rat) / (B : Rat) := by grind
 have e2 : 1 / (B : Rat) * ((y : Rat) / (k : Rat)) = (y : Rat) / (B : Rat) / (k : Rat) := by grind
 rw [e1, e2] at this
 exact this.le (by grind)
theorem chain_ok (hB : 0 < B) (hy : y ≤ B) : ∀ {m d u : Nat}, 1 ≤ d → ChainN B y d m u → u ≤ y / (d * (d + 1)) ∧ Nr ((u : Rat) / (B : Rat)) (tay ((y : Rat) / (B : Rat)) d m) (6 / (B : Rat))
 | 0, d, u, hd, h => by
  have hu : u = 0 := h
  subst hu
  have hB2 : (0 : Rat) < (B : Rat) := by exact_mod_cast hB
  have : (0 : Rat) ≤ 6 / (B : Rat) := by
   rw [Rat.div_def]; exact rmul0 (by grind) (Rat.le_of_lt (Rat.inv_pos.2 hB2))
  refine ⟨Nat.zero_le _, ?_⟩
  have e : ((0 : Nat) : Rat) / (B : Rat) = 0 := by simp [Rat.div_def]
  rw [e]
  unfold tay
  constructor <;> grind
 | m + 1, d, u, hd, ⟨u', p, hc, h1, h2, h3⟩ => by
  obtain ⟨hu, ih⟩ := chain_ok hB hy (m := m) (d := d + 2) (by omega) hc
  refine ⟨by omega, ?_⟩
  have hB2 : (0 : Rat) < (B : Rat) := by exact_mod_cast hB
  have hdd := dd_ge hd
  have hy1 : (y : Rat) / (B : Rat) ≤ 1 := by
   have := natB hB hy
   rwa [show (B : Rat) / (B : Rat) = 1 by grind] at this
  have hy0 := nat0 (a := y) hB
  have hq := nr_div (y := y) hB (show 0 < d * (d + 1) by omega)
  have hm := nr_mul hB h1 h2
  generalize hqq : y / (d * (d + 1)) = q at *
  have hq0 := nat0 (a := q) hB
  have hq1 : (q : Rat) / (B : Rat) ≤ 1 / 2 := by
   have h5 : q * 2 ≤ B := by
    rw [← hqq]
    have := Nat.div_mul_le_self y (d * (d + 1))
    have := Nat.mul_le_mul_left (y / (d * (d + 1))) hdd
    omega
   have h6 : (q : Rat) * 2 ≤ (B : Rat) := by exact_mod_cast h5
   refine Rat.le_of_mul_le_mul_right (c := (B : Rat)) ?_ hB2
   rw [Rat.div_mul_cancel (by grind)]
   grind
  obtain ⟨t0, t1⟩ := tay_in hy0 hy1 (m := m) (d := d + 2) (by omega)
  have hu2 : (u : Rat) / (B : Rat) = (q : Rat) / (B : Rat) - (p : Rat) / (B : Rat) := by
   have : (u : Rat) + (p : Rat) = (q : Rat) := by exact_mod_cast h3
   rw [← this]
   grind
  have hone := ((Nr.refl 1).sub ih)
  have hp := hq.mul hone hq0 hq1 (show 0 ≤ 1 - tay ((y : Rat) / (B : Rat)) (d + 2) m by grind) (show 1 - tay ((y : Rat) / (B : Rat)) (d + 2) m ≤ 1 by grind)
  rw [hu2]
  have e1 : (q : Rat) / (B : Rat) * (1 - (u' : Rat) / (B : Rat)) = (q : Rat) / (B : Rat) - (q : Rat) / (B : Rat) * ((u' : Rat) / (B : Rat)) := by grind
  rw [e1] at hp
  have hs := ((Nr.refl ((q : Rat) / (B : Rat))).sub hm).trans hp
  have e2 : tay ((y : Rat) / (B : Rat)) d (m + 1) = (y : Rat) / (B : Rat) / ((d * (d + 1) : Nat) : Rat) * (1 - tay ((y : Rat) / (B : Rat)) (d + 2) m) := by
   simp only [tay]
   push_cast
   rfl
  rw [e2]
  refine hs.le ?_
  have e3 : ((2 : Nat) : Rat) / (B : Rat) = 2 * (1 / (B : Rat)) := by push_cast; grind
  have e4 : (6 : Rat) / (B : Rat) = 6 * (1 / (B : Rat)) := by grind
  rw [e3, e4]
  grind
end
def b256 : Nat := 115792089237316195423570985008687907853269984665640564039457584007913129639936
theorem b256_pos : 0 < b256 := by decide +kernel
theorem b256_rat : (0 : Rat) < (b256 : Rat) := by exact_mod_cast b256_pos
def sml : Rat := 1 / 1000000000000000000000000000
theorem b256_sml : 20 / (b256 : Rat) ≤ sml / 2 := by
 have h : 40 * 1000000000000000000000000000 ≤ b256 := by decide +kernel
 have h2 : (40 : Rat) * 1000000000000000000000000000 ≤ (b256 : Rat) := by exact_mod_cast h
 refine Rat.le_of_mul_le_mul_right (c := (b256 : Rat)) ?_ b256_rat
 rw [Rat.div_mul_cancel (by have := b256_rat; grind)]
 unfold sml
 grind
theorem facT_sml {d : Nat} (h : 304888344611713860501504000000 ≤ facT d 14) : 1 / (2 * (facT d 14 : Rat)) ≤ sml / 2 := by
 have h2 : (304888344611713860501504000000 : Rat) ≤ (facT d 14 : Rat) := by exact_mod_cast h
 have h0 : (0 : Rat) < 2 * (facT d 14 : Rat) := by grind
 refine Rat.le_of_mul_le_mul_right (c := 2 * (facT d 14 : Rat)) ?_ h0
 rw [Rat.div_mul_cancel (by grind)]
 unfold sml
 grind
theorem xi_near (r : Nat) : Nr (((r * piN / 10800000 : Nat) : Rat) / (b256 : Rat)) (xi r) (1 / (b256 : Rat)) := by
 have h := nr_div (y := r * piN) (k := 10800000) b256_pos (by decide)
 have e : ((r * piN : Nat) : Rat) / (b256 : Rat) / ((10800000 : Nat) : Rat) = xi r := by
  have h0 : piD = b256 * 10800000 := by decide +kernel
  have hb := b256_rat
  unfold xi
  rw [h0]
  generalize (10800000 : Nat) = k
  push_cast
  grind
 rw [e] at h
 exact h
theorem sq_near {r x y : Nat} (hr : r ≤ 2700000) (hx : x = r * piN / 10800000) (h1 : y * b256 ≤ x * x) (h2 : x * x ≤ (y + 2) * b256) : y ≤ b256 ∧ Nr ((x : Rat) / (b256 : Rat)) (xi r) (1 / (b256 : Rat)) ∧ Nr ((y : Rat) / (b256 : Rat)) (xi r * xi r) (4 / (b256 : Rat)) ∧ (x : Rat) / (b256 : Rat) ≤ 1 := by
 have hn := xi_near r
 rw [← hx] at hn
 have hx4 := xi_in (n := r) (by omega)
 have hb := b256_sml
 have hsm : sml ≤ 1 / 100 := by unfold sml; grind
 have hb1 : 0 ≤ 1 / (b256 : Rat) := hn.pos
 have e20 : 20 / (b256 : Rat) = 20 * (1 / (b256 : Rat)) := by grind
 rw [e20] at hb
 have hx1 : (x : Rat) / (b256 : Rat) ≤ 1 := by
  obtain ⟨a, b⟩ := hn; grind
 have hx0 := nat0 (a := x) b256_pos
 have hm := nr_mul b256_pos h1 h2
 have hp := hn.mul hn hx0 hx1 hx4.1 (show xi r ≤ 1 by grind)
 have ht := hm.trans hp
 have e2 : ((2 : Nat) : Rat) / (b256 : Rat) = 2 * (1 / (b256 : Rat)) := by push_cast; grind
 have e4 : (4 : Rat) / (b256 : Rat) = 4 * (1 / (b256 : Rat)) := by grind
 refine ⟨?_, hn, ht.le (by rw [e2, e4]; grind), hx1⟩
 have hq := sq_in hx4
 have hy1 : (y : Rat) / (b256 : Rat) ≤ 1 := by
  have := ht.1
  rw [e2] at this
  grind
 have := Rat.mul_le_mul_of_nonneg_right hy1 (Rat.le_of_lt b256_rat)
 rw [Rat.div_mul_cancel (by have := b256_rat; grind), Rat.one_mul] at this
 exact_mod_cast this
theorem chain_near {r y u d : Nat} (hr : r ≤ 2700000) (hy : y ≤ b256) (hn : Nr ((y : Rat) / (b256 : Rat)) (xi r * xi r) (4 / (b256 : Rat))) (hd : 1 ≤ d) (hf : 304888344611713860501504000000 ≤ facT d 14) (hc : ChainN b256 y d 34 u) : Nr ((u : Rat) / (b256 : Rat)) (tay (xi r * xi r) d 14) (10 / (b256 : Rat) + sml / 2) := by
 have h1 := (chain_ok b256_pos hy hd hc).2
 have hq := sq_in (xi_in (n := r) (by omega))
 have hy0 := nat0 (a := y) b256_pos
 have hy1 : (y : Rat) / (b256 : Rat) ≤ 1 := by
  have := natB b256_pos hy
  rwa [show (b256 : Rat) / (b256 : Rat) = 1 by have := b256_rat; grind] at this
 have h2 := tay_arg hy0 hy1 hq.1 (by grind) hn (m := 34) hd
 have h3 := tay_more hq.1 (by grind) 20 (m := 14) hd
 exact ((h1.trans h2).trans h3).le (by have := facT_sml hf; grind)
theorem ser_sin {r x y u p s : Nat} (hr : r ≤ 2700000) (hx : x = r * piN / 10800000) (h1 : y * b256 ≤ x * x) (h2 : x * x ≤ (y + 2) * b256) (hc : ChainN b256 y 2 34 u) (h3 : p * b256 ≤ x * u) (h4 : x * u ≤ (p + 2) * b256) (hs : s + p = x) : Nr ((s : Rat) / (b256 : Rat)) (sinT r) sml := by
 obtain ⟨hy, hn, hq, hx1⟩ := sq_near hr hx h1 h2
 have hu := chain_near hr hy hq (by decide) (by decide +kernel) hc
 have hm := nr_mul b256_pos h3 h4
 have hx0 := nat0 (a := x) b256_pos
 have hx4 := xi_in (n := r) (by omega)
 obtain ⟨t0, t1⟩ := tay_in (sq_in hx4).1 (by have := (sq_in hx4).2; grind) (m := 14) (d := 2) (by decide)
 have hp := hn.mul ((Nr.refl 1).sub hu) hx0 hx1 (show 0 ≤ 1 - tay (xi r * xi r) 2 14 by have := (sq_in hx4).2; grind) (show 1 - tay (xi r * xi r) 2 14 ≤ 1 by grind)
 have hs2 : (s : Rat) / (b256 : Rat) = (x : Rat) / (b256 : Rat) - (p : Rat) / (b256 : Rat) := by
  have : (s : Rat) + (p : Rat) = (x : Rat) := by exact_mod_cast hs
  have hb := b256_rat
  rw [← this]
  grind
 have e1 : (x : Rat) / (b256 : Rat) * (1 - (u : Rat) / (b256 : Rat)) = (x : Rat) / (b256 : Rat) - (x : Rat) / (b256 : Rat) * ((u : Rat) / (b256 : Rat)) := by grind
 rw [e1] at hp
 have hf := ((Nr.refl ((x : Rat) / (b256 : Rat))).sub hm).trans hp
 rw [hs2]
 unfold sinT
 refine hf.le ?_
 have hb := b256_sml
 have e2 : ((2 : Nat) : Rat) / (b256 : Rat) = 2 * (1 / (b256 : Rat)) := by push_cast; grind
 have e20 : 20 / (b256 : Rat) = 20 * (1 / (b256 : Rat)) := by grind
 have e10 : 10 / (b256 : Rat) = 10 * (1 / (b256 : Rat)) := by grind
 have hb1 := hn.pos
 rw [e20] at hb
 rw [e2, e10]
 grind
theorem ser_cos {r x y u : Nat} (hr : r ≤ 2700000) (hx : x = r * piN / 10800000) (h1 : y * b256 ≤ x * x) (h2 : x * x ≤ (y + 2) * b256) (hc : ChainN b256 y 1 34 u) : Nr (1 - (u : Rat) / (b256 : Rat)) (cosT r) sml := by
 obtain ⟨hy, hn, hq, -⟩ := sq_near hr hx h1 h2
 have hu := chain_near hr hy hq (by decide) (by decide +kernel) hc
 have hp := (Nr.refl 1).sub hu
 unfold cosT
 refine hp.le ?_
 have hb := b256_sml
 have e20 : 20 / (b256 : Rat) = 20 * (1 / (b256 : Rat)) := by grind
 have e10 : 10 / (b256 : Rat) = 10 * (1 / (b256 : Rat)) := by grind
 have hb1 := hn.pos
 rw [e20] at hb
 rw [e10]
 grind
theorem cell_of {s f : Nat} {V : Rat} (h : Nr ((s : Rat) / (b256 : Rat)) V sml) (hb : Bt f V) : s / 107839786668602559178668060348078522694548577690162289924414440996864 = f := by
 obtain ⟨h1, h2⟩ := h
 obtain ⟨b1, b2⟩ := hb
 have hb := b256_rat
 have e : (b256 : Rat) = ((107839786668602559178668060348078522694548577690162289924414440996864 : Nat) : Rat) * ((1073741824 : Nat) : Rat) := by
  rw [show b256 = 107839786668602559178668060348078522694548577690162289924414440996864 * 1073741824 by decide +kernel]
  exact Rat.natCast_mul _ _
 have hs : sml ≤ 1 / 4611686018427387904 := by unfold sml; grind
 have l1 : (f : Rat) / 1073741824 ≤ (s : Rat) / (b256 : Rat) := by grind
 have l2 : (s : Rat) / (b256 : Rat) ≤ ((f : Rat) + 1) / 1073741824 - 1 / 4611686018427387904 := by grind
 have m1 := Rat.mul_le_mul_of_nonneg_right l1 (Rat.le_of_lt hb)
 have m2 := Rat.mul_le_mul_of_nonneg_right l2 (Rat.le_of_lt hb)
 rw [Rat.div_mul_cancel (by grind), e] at m1 m2
 generalize hU : (107839786668602559178668060348078522694548577690162289924414440996864 : Nat) = U at *
 have hU0 : 0 < U := by rw [← hU]; decide +kernel
 have hk : ((1073741824 : Nat) : Rat) = 1073741824 := rfl
 rw [hk] at m1 m2
 have hUp : (0 : Rat) < (U : Rat) := by exact_mod_cast hU0
 have n1 : (f : Rat) * (U : Rat) ≤ (s : Rat) := by grind
 have n2 : (s : Rat) < ((f : Rat) + 1) * (U : Rat) := by grind
 have n1' : f * U ≤ s := by exact_mod_cast n1
 have n2' : s < (f + 1) * U := by exact_mod_cast n2
 exact Nat.div_eq_of_lt_le n1' n2'
end Go.Proofs.YtcbicpbbjbkiaaaGreatDoor
namespace Go.Proofs.YtcbicpbbjbkiaaaGreatDoor

end Go.Proofs.YtcbicpbbjbkiaaaGreatDoor
