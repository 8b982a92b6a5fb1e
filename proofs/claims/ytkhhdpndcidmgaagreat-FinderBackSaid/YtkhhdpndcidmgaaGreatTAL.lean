/- Contracts and plain laws, several texts in one: Nm0; Nm1; Nm2; Nm3 -/
import Derived.Test.YtkhhdpndcidmgaaGreatProg
import Derived.WalkKit
import Derived.WalkSpells
import Derived.WalkLawsBesides
import Derived.Lib.Hide
import Derived.BigQuiet
import Derived.Shelf.Spec.BitsCarry
import Derived.Test.YtkhhdpndcidmgaaGreatTAB
import Derived.Test.YtkhhdpndcidmgaaGreatTAE
import Derived.Test.YtkhhdpndcidmgaaGreatTAF
import Derived.Test.YtkhhdpndcidmgaaGreatTAH
import Derived.Test.YtkhhdpndcidmgaaGreatTAI
import Derived.Test.YtkhhdpndcidmgaaGreatTAK
/- Numbers of four words: values and plain laws; the carries. -/
namespace Go.Proofs.YtkhhdpndcidmgaaGreat
open Go.RowKit

def nt (l : List Nat) (i : Nat) : Nat := l.getD i 0
def valB (B : Nat) : List Nat → Nat
  | [] => 0
  | x :: l => x * B ^ l.length + valB B l
theorem nt_lt {l : List Nat} {i : Nat} (h : i < l.length) : l[i]? = some (nt l i) := by
  unfold nt
  simp [List.getD, h]
theorem nt_set {l : List Nat} {i j x : Nat} (h : i < l.length) : nt (l.set i x) j = if j = i then x else nt l j := by
  unfold nt
  by_cases hj : j = i
  · subst hj; simp [List.getD, h]
  · rw [if_neg hj]
    simp [List.getD, Ne.symm hj]
theorem valB_drop {B : Nat} : ∀ {l : List Nat} {i : Nat}, i < l.length → valB B (l.drop i) = nt l i * B ^ (l.length - i - 1) + valB B (l.drop (i + 1))
  | [], i, h => absurd h (Nat.not_lt_zero _)
  | x :: l, 0, _ => by
    simp only [List.drop_zero, List.drop_succ_cons, valB, nt, List.getD_cons_zero, List.length_cons]
    congr 2
  | x :: l, i + 1, h => by
    have := valB_drop (B := B) (l := l) (i := i) (by simpa using h)
    simp only [List.drop_succ_cons, List.length_cons, nt, List.getD_cons_succ] at this ⊢
    rw [this]
    congr 3
    omega
theorem valB_lt {B : Nat} (hB : 0 < B) : ∀ {l : List Nat}, (∀ x ∈ l, x < B) → valB B l < B ^ l.length
  | [], _ => by simp [valB]
  | x :: l, h => by
    have ih := valB_lt hB (l := l) (fun y hy => h y (List.mem_cons_of_mem _ hy))
    have hx := h x (List.mem_cons_self ..)
    have h2 : (x + 1) * B ^ l.length ≤ B * B ^ l.length := Nat.mul_le_mul_right _ hx
    rw [Nat.succ_mul] at h2
    simp only [valB, List.length_cons, Nat.pow_succ, Nat.mul_comm (B ^ l.length)]
    omega
theorem drop_set {l : List Nat} {i x : Nat} : (l.set i x).drop (i + 1) = l.drop (i + 1) := by
  rw [List.drop_set_of_lt (by omega)]
structure Wd (n : Nat) (l : List Nat) : Prop where
  len : l.length = n
  lt : ∀ i, nt l i < 18446744073709551616
theorem Wd.mem {n : Nat} {l : List Nat} (h : Wd n l) : ∀ x ∈ l, x < 18446744073709551616 := fun x hx => by
  obtain ⟨i, hi, rfl⟩ := List.getElem_of_mem hx
  have := h.lt i
  unfold nt at this
  simpa [List.getD, hi] using this
theorem Wd.set {n : Nat} {l : List Nat} (h : Wd n l) {i x : Nat} (hi : i < n) (hx : x < 18446744073709551616) : Wd n (l.set i x) := by
  refine ⟨by rw [List.length_set]; exact h.len, fun j => ?_⟩
  rw [nt_set (by rw [h.len]; exact hi)]
  split
  · exact hx
  · exact h.lt j
def nuA (l : List Nat) : Array Value := (l.map fun (x : Nat) => Value.int .u64 (x : Int)).toArray
theorem nuA_get {l : List Nat} {i : Nat} (h : i < l.length) : (nuA l)[i]? = some (.int .u64 (nt l i : Int)) := by
  unfold nuA
  simp [nt_lt h]
theorem nuA_set {l : List Nat} {i x : Nat} : (nuA l).setIfInBounds i (.int .u64 (x : Int)) = nuA (l.set i x) := by
  unfold nuA
  simp [List.map_set]
def nuV (l : List Nat) : Value := .agg #[.int .u64 (nt l 0 : Int), .int .u64 (nt l 1 : Int), .int .u64 (nt l 2 : Int), .int .u64 (nt l 3 : Int)]
theorem nuA_four {l : List Nat} (h : l.length = 4) : nuA l = #[.int .u64 (nt l 0 : Int), .int .u64 (nt l 1 : Int), .int .u64 (nt l 2 : Int), .int .u64 (nt l 3 : Int)] := by
  match l, h with
  | [a, b, c, d], _ => rfl
def val4 (l : List Nat) : Nat := valB 18446744073709551616 l
theorem val4_lt {l : List Nat} (h : Wd 4 l) : val4 l < 18446744073709551616 ^ 4 := by
  have := valB_lt (B := 18446744073709551616) (by decide) h.mem
  rw [h.len] at this
  exact this

theorem add64 (x y c : Nat) (hc : c ≤ 1) (w : World) : (callFunc 180 #[.int .u64 (x : Int), .int .u64 (y : Int), .int .u64 (c : Int)]).run Tryz.prog w =
    .ok (.value (.tuple #[.int .u64 (((x + y + c) % 18446744073709551616 : Nat) : Int), .int .u64 (((x + y + c) / 18446744073709551616 : Nat) : Int)])) w := by
  rw [run_callFunc_extern Tryz.func180 (by kernel_rfl) (by kernel_rfl) (by kernel_rfl) (e := add64Entry) (by kernel_rfl), run_add64 x y c (by omega) (by omega) (by omega) (by omega)]
  simp only [Result.andThen]
  congr 5 <;> omega
theorem sub64 (x y b : Nat) (hb : b ≤ 1) (w : World) : (callFunc 183 #[.int .u64 (x : Int), .int .u64 (y : Int), .int .u64 (b : Int)]).run Tryz.prog w =
    .ok (.value (.tuple #[.int .u64 (((x + 18446744073709551616 - y - b) % 18446744073709551616 : Nat) : Int), .int .u64 ((if x < y + b then 1 else 0 : Nat) : Int)])) w := by
  rw [run_callFunc_extern Tryz.func183 (by kernel_rfl) (by kernel_rfl) (by kernel_rfl) (e := sub64Entry) (by kernel_rfl), run_sub64 x y b hb]
  rfl
theorem sub_word {B x y b : Nat} (hx : x < B) (hy : y < B) (hb : b ≤ 1) : ∃ r c : Nat, r < B ∧ c ≤ 1 ∧ (x + B - y - b) % B = r ∧ (if x < y + b then 1 else 0) = c ∧ r + y + b = x + c * B := by
  by_cases h : x < y + b
  · refine ⟨x + B - y - b, 1, by omega, by omega, Nat.mod_eq_of_lt (by omega), if_pos h, by omega⟩
  · refine ⟨x - y - b, 0, by omega, by omega, ?_, if_neg h, by omega⟩
    rw [show x + B - y - b = x - y - b + B by omega, Nat.add_mod_right, Nat.mod_eq_of_lt (by omega)]
theorem add_word {B x y c : Nat} (hx : x < B) (hy : y < B) (hc : c ≤ 1) : ∃ r k : Nat, r < B ∧ k ≤ 1 ∧ (x + y + c) % B = r ∧ (x + y + c) / B = k ∧ r + k * B = x + y + c := by
  have h1 := Nat.div_add_mod (x + y + c) B
  have h2 := Nat.mod_lt (x + y + c) (show 0 < B by omega)
  refine ⟨_, _, h2, ?_, rfl, rfl, by rw [Nat.mul_comm]; omega⟩
  have : (x + y + c) / B < 2 := Nat.div_lt_of_lt_mul (by omega)
  omega
end Go.Proofs.YtkhhdpndcidmgaaGreat
/- Differences of numbers of four words. -/
namespace Go.Proofs.YtkhhdpndcidmgaaGreat
open Go.RowKit

def LowS (B : Nat) (a b r : List Nat) (k c : Nat) : Prop := valB B (r.drop k) + valB B (b.drop k) = valB B (a.drop k) + c * B ^ (4 - k)
theorem lowS_step {B : Nat} {a b r : List Nat} {i c d c' : Nat} (ha : a.length = 4) (hb : b.length = 4) (hr : r.length = 4) (hi : i < 4) (h : LowS B a b r (i + 1) c) (e : d + nt b i + c = nt a i + c' * B) : LowS B a b (r.set i d) i c' := by
  unfold LowS at *
  rw [valB_drop (l := r.set i d) (by rw [List.length_set, hr]; exact hi), valB_drop (l := b) (by rw [hb]; exact hi), valB_drop (l := a) (by rw [ha]; exact hi), drop_set, nt_set (by rw [hr]; exact hi), if_pos rfl, List.length_set, ha, hb, hr]
  have hp : B ^ (4 - i) = B ^ (4 - i - 1) * B := by rw [← Nat.pow_succ]; congr 1; omega
  rw [hp]
  rw [show 4 - (i + 1) = 4 - i - 1 by omega] at h
  generalize B ^ (4 - i - 1) = P at *
  have e2 : (d + nt b i + c) * P = (nt a i + c' * B) * P := by rw [e]
  grind
structure SubI (a b r : List Nat) (k c : Nat) : Prop where
  wd : Wd 4 r
  old : ∀ j, j < k → nt r j = nt a j
  c1 : c ≤ 1
  low : LowS 18446744073709551616 a b r k c
theorem SubI.start {a b : List Nat} (ha : Wd 4 a) (hb : Wd 4 b) : SubI a b a 4 0 := ⟨ha, fun _ _ => rfl, by omega, by
  unfold LowS
  rw [List.drop_eq_nil_of_le (by rw [ha.len]; exact Nat.le_refl 4), List.drop_eq_nil_of_le (by rw [hb.len]; exact Nat.le_refl 4)]
  simp [valB]⟩
theorem SubI.step {a b r : List Nat} {i c d c' : Nat} (h : SubI a b r (i + 1) c) (ha : Wd 4 a) (hb : Wd 4 b) (hi : i < 4) (hd : d < 18446744073709551616) (hc : c' ≤ 1) (e : d + nt b i + c = nt r i + c' * 18446744073709551616) : SubI a b (r.set i d) i c' :=
  ⟨h.wd.set hi hd, fun j hj => by rw [nt_set (by rw [h.wd.len]; exact hi), if_neg (by omega)]; exact h.old j (by omega), hc, lowS_step ha.len hb.len h.wd.len hi h.low (by rw [← h.old i (by omega)]; exact e)⟩
theorem SubI.done {a b r : List Nat} {c : Nat} (h : SubI a b r 0 c) : c ≤ 1 ∧ val4 r + val4 b = val4 a + c * 18446744073709551616 ^ 4 := ⟨h.c1, by have := h.low; unfold LowS at this; simpa [val4] using this⟩

set_option maxHeartbeats 1000000 in
set_option maxRecDepth 100000 in
theorem nm_sub (a b : List Nat) (ha : Wd 4 a) (hb : Wd 4 b) (w : World) :
    Calls Tryz.prog 150 #[nuV a, nuV b] w fun e w' => ∃ r d, e = .returned (nuV r) ∧ w' = bw w d ∧ Wd 4 r ∧ ∃ c, c ≤ 1 ∧ val4 r + val4 b = val4 a + c * 18446744073709551616 ^ 4 := by
  refine lay_start ?_
  unfold nuV
  go_enter Tryz.func150, Tryz.ntmps150
  go_wp2_with fail
  rw [← nuA_four ha.len, ← nuA_four hb.len]
  go_loopw [5, 6] (fun v5 v6 wr => ∃ (k c : Nat) (r : List Nat) (d : Ext), k ≤ 4 ∧ v5 = .int .u64 (c : Int) ∧ v6 = .int .i64 ((k : Int) - 1) ∧ wr = lay w [.inr d, .inl (.cells #[.int .u64 0, .int .u64 0, .int .u64 0, .int .u64 0] 175 (0, 0)), .inl (.cells (nuA b) 175 (0, 0)), .inl (.cells (nuA r) 175 (0, 0))] ∧ SubI a b r k c) (fun _ v6 _ => (intOf v6 + 1).toNat)
  case atStart => exact ⟨4, 0, a, noExt _, Nat.le_refl _, rfl, rfl, (bw_noExt _).symm, SubI.start ha hb⟩
  case round =>
    obtain ⟨k, c, r, d, hk, rfl, rfl, rfl, hS⟩ := hrel
    have HS := Lib.hid hS
    rcases k with _ | i
    · rw [show ((0 : Nat) : Int) - 1 = -1 from rfl]
      have g0 := nuA_get (l := r) (i := 0) (by rw [hS.wd.len]; decide)
      have g1 := nuA_get (l := r) (i := 1) (by rw [hS.wd.len]; decide)
      have g2 := nuA_get (l := r) (i := 2) (by rw [hS.wd.len]; decide)
      have g3 := nuA_get (l := r) (i := 3) (by rw [hS.wd.len]; decide)
      clear hS
      go_wp2_with fail
      obtain ⟨dz, ez⟩ := lay_all w [.inr d, .inl (.cells #[.int .u64 (nt r 0 : Int), .int .u64 (nt r 1 : Int), .int .u64 (nt r 2 : Int), .int .u64 (nt r 3 : Int)] 175 (0, 0)), .inl (.cells (nuA b) 175 (0, 0)), .inl (.cells (nuA r) 175 (0, 0))]
      exact bodyPost_ret (v := .agg #[.int .u64 (nt r 0 : Int), .int .u64 (nt r 1 : Int), .int .u64 (nt r 2 : Int), .int .u64 (nt r 3 : Int)]) (by simp [results, Tryz.results150, go_sem]) rfl ⟨r, dz, rfl, ez, HS.out.wd, c, HS.out.done⟩
    · rw [show ((i + 1 : Nat) : Int) - 1 = (i : Int) by omega]
      have hi : i < 4 := by omega
      have x0 : (0 : Int) ≤ (i : Int) := by omega
      have x1 : (i : Int) < 4 := by omega
      have x2 : (i : Int).toNat = i := by omega
      obtain ⟨X, hX⟩ : ∃ X, nt r i = X := ⟨_, rfl⟩
      obtain ⟨Y, hY⟩ : ∃ Y, nt b i = Y := ⟨_, rfl⟩
      have g0 := nuA_get (l := r) (i := i) (by rw [hS.wd.len]; exact hi)
      have g1 := nuA_get (l := b) (i := i) (by rw [hb.len]; exact hi)
      rw [hX] at g0
      rw [hY] at g1
      obtain ⟨D, c', hD, hc', e1, e2, e3⟩ := sub_word (x := X) (y := Y) (b := c) (B := 18446744073709551616) (by rw [← hX]; exact hS.wd.lt i) (by rw [← hY]; exact hb.lt i) hS.c1
      have hcall := fun W => sub64 X Y c hS.c1 W
      rw [e1, e2] at hcall
      have HN := Lib.hid (hS.step ha hb hi hD hc' (by rw [hX, hY]; exact e3))
      clear hS e1 e2 e3
      have hz : c ≤ 1 := HS.out.c1
      go_wp2_with fail
      refine region_mixS 13 [(0, 2), (1, 2), (2, 2), (3, 0), (4, 2), (5, 2), (6, 0), (7, 2), (8, 2), (9, 2), (10, 2), (11, 2), (12, 2), (13, 3), (14, 2)] (by kernel_rfl) (by kernel_rfl) (by kernel_rfl) rfl ?_
      repeat (first | (refine wpMS_pure rfl (fun K hK => ?_); go_simp; refine hK _ ?_; clear hK K) | (refine wpMS_quiet rfl (fun K hK => ?_); go_simp; first | (refine hK _ ?_; clear hK K) | (apply Exists.intro; refine ⟨fun _ => ?_, hK _ ?_⟩; (first | fail); clear hK K)))
      refine wpMS_store rfl (fun K hK e1 => ?_)
      rw [lay_bw]
      go_simp
      refine hK _ _ ?_
      clear hK K
      rw [nuA_set]
      repeat (first | (refine wpMS_pure rfl (fun K hK => ?_); go_simp; refine hK _ ?_; clear hK K) | (refine wpMS_quiet rfl (fun K hK => ?_); go_simp; first | (refine hK _ ?_; clear hK K) | (apply Exists.intro; refine ⟨fun _ => ?_, hK _ ?_⟩; (first | fail); clear hK K)))
      refine wpMS_nil (fun e2 => ?_)
      rw [lay_bw]
      obtain ⟨d3, e3⟩ := lay_fold w [.inr e2, .inr e1, .inr d] [.inl (.cells #[.int .u64 0, .int .u64 0, .int .u64 0, .int .u64 0] 175 (0, 0)), .inl (.cells (nuA b) 175 (0, 0)), .inl (.cells (nuA (r.set i D)) 175 (0, 0))]
      change lay w [.inr e2, .inr e1, .inr d, .inl (.cells #[.int .u64 0, .int .u64 0, .int .u64 0, .int .u64 0] 175 (0, 0)), .inl (.cells (nuA b) 175 (0, 0)), .inl (.cells (nuA (r.set i D)) 175 (0, 0))] = _ at e3
      rw [e3]
      clear e3
      go_wp2_with fail
      go_roundw
      case rel => exact ⟨i, c', r.set i D, d3, by omega, rfl, rfl, rfl, HN.out⟩
      case measure => simp [intOf]
end Go.Proofs.YtkhhdpndcidmgaaGreat
/- Quotients of numbers of four words by a word. -/
namespace Go.Proofs.YtkhhdpndcidmgaaGreat
open Go.RowKit

theorem valB_snoc {B x : Nat} : ∀ {l : List Nat}, valB B (l ++ [x]) = valB B l * B + x
  | [] => by simp [valB]
  | y :: l => by
    have ih := valB_snoc (B := B) (x := x) (l := l)
    simp only [List.cons_append, valB, ih, List.length_append, List.length_cons, List.length_nil, Nat.pow_succ]
    grind
theorem valB_take {B : Nat} {l : List Nat} {k : Nat} (h : k < l.length) : valB B (l.take (k + 1)) = valB B (l.take k) * B + nt l k := by
  rw [List.take_add_one, nt_lt h]
  exact valB_snoc
theorem take_set {l : List Nat} {i x : Nat} : (l.set i x).take i = l.take i := List.take_set_of_le (Nat.le_refl i)
theorem div_word {B t x d : Nat} (ht : t < d) (hx : x < B) : (t * B + x) / d < B := by
  rw [Nat.div_lt_iff_lt_mul (by omega)]
  have h1 : (t + 1) * B ≤ d * B := Nat.mul_le_mul_right _ ht
  rw [Nat.mul_comm B d]
  rw [Nat.succ_mul] at h1
  generalize d * B = D at *
  generalize t * B = T at *
  omega
structure DivI (a : List Nat) (t0 d : Nat) (r : List Nat) (k t : Nat) : Prop where
  wd : Wd 4 r
  old : ∀ j, k ≤ j → nt r j = nt a j
  td : t < d
  eq : t0 * 18446744073709551616 ^ k + valB 18446744073709551616 (a.take k) = valB 18446744073709551616 (r.take k) * d + t
theorem DivI.start {a : List Nat} {t0 d : Nat} (ha : Wd 4 a) (h : t0 < d) : DivI a t0 d a 0 t0 := ⟨ha, fun _ _ => rfl, h, by simp [valB]⟩
theorem DivI.step {a r : List Nat} {t0 d k t : Nat} (ha : Wd 4 a) (h : DivI a t0 d r k t) (hk : k < 4) : (t * 18446744073709551616 + nt r k) / d < 18446744073709551616 ∧ DivI a t0 d (r.set k ((t * 18446744073709551616 + nt r k) / d)) (k + 1) ((t * 18446744073709551616 + nt r k) % d) := by
  have hd : 0 < d := Nat.lt_of_le_of_lt (Nat.zero_le _) h.td
  have hx := h.wd.lt k
  have hq := div_word h.td hx
  refine ⟨hq, h.wd.set hk hq, fun j hj => ?_, Nat.mod_lt _ hd, ?_⟩
  · rw [nt_set (by rw [h.wd.len]; exact hk), if_neg (by omega)]
    exact h.old j (by omega)
  · rw [valB_take (by rw [ha.len]; exact hk), valB_take (by rw [List.length_set, h.wd.len]; exact hk), take_set, nt_set (by rw [h.wd.len]; exact hk), if_pos rfl, ← h.old k (Nat.le_refl k), Nat.pow_succ]
    have he := h.eq
    have hm := Nat.div_add_mod (t * 18446744073709551616 + nt r k) d
    generalize (t * 18446744073709551616 + nt r k) / d = q at *
    generalize (t * 18446744073709551616 + nt r k) % d = m at *
    generalize 18446744073709551616 ^ k = P at *
    generalize (18446744073709551616 : Nat) = B at *
    generalize valB B (a.take k) = A at *
    generalize valB B (r.take k) = R at *
    have e2 : (t0 * P + A) * B = (R * d + t) * B := by rw [he]
    grind
theorem DivI.done {a r : List Nat} {t0 d t : Nat} (ha : Wd 4 a) (h : DivI a t0 d r 4 t) : val4 r = (t0 * 18446744073709551616 ^ 4 + val4 a) / d := by
  have he := h.eq
  rw [List.take_of_length_le (by rw [ha.len]; exact Nat.le_refl 4), List.take_of_length_le (by rw [h.wd.len]; exact Nat.le_refl 4)] at he
  change t0 * 18446744073709551616 ^ 4 + val4 a = val4 r * d + t at he
  rw [he]
  have htd := h.td
  generalize val4 r = R at *
  rw [Nat.add_comm, Nat.add_mul_div_right _ _ (by omega), Nat.div_eq_of_lt htd, Nat.zero_add]

set_option maxHeartbeats 1000000 in
set_option maxRecDepth 100000 in
theorem nm_div (a : List Nat) (t0 dv : Nat) (ha : Wd 4 a) (ht : t0 < dv) (hd : dv < 18446744073709551616) (w : World) :
    Calls Tryz.prog 182 #[nuV a, .int .u64 (t0 : Int), .int .u64 (dv : Int)] w fun e w' => ∃ r d, e = .returned (nuV r) ∧ w' = bw w d ∧ Wd 4 r ∧ val4 r = (t0 * 18446744073709551616 ^ 4 + val4 a) / dv := by
  refine lay_start ?_
  unfold nuV
  go_enter Tryz.func182, Tryz.ntmps182
  go_wp2_with fail
  rw [← nuA_four ha.len]
  go_loopw [1, 8] (fun v1 v8 wr => ∃ (k t : Nat) (r : List Nat) (d : Ext), k ≤ 4 ∧ v1 = .int .u64 (t : Int) ∧ v8 = .int .i64 (k : Int) ∧ wr = lay w [.inr d, .inl (.cells #[.int .u64 0, .int .u64 0, .int .u64 0, .int .u64 0] 175 (0, 0)), .inl (.cells (nuA r) 175 (0, 0))] ∧ DivI a t0 dv r k t) (fun _ v8 _ => 4 - (intOf v8).toNat)
  case atStart => exact ⟨0, t0, a, noExt _, by omega, rfl, rfl, (bw_noExt _).symm, DivI.start ha ht⟩
  case round =>
    obtain ⟨k, t, r, d, hk, rfl, rfl, rfl, hS⟩ := hrel
    have HS := Lib.hid hS
    by_cases hk4 : k = 4
    · subst hk4
      have g0 := nuA_get (l := r) (i := 0) (by rw [hS.wd.len]; decide)
      have g1 := nuA_get (l := r) (i := 1) (by rw [hS.wd.len]; decide)
      have g2 := nuA_get (l := r) (i := 2) (by rw [hS.wd.len]; decide)
      have g3 := nuA_get (l := r) (i := 3) (by rw [hS.wd.len]; decide)
      clear hS
      go_wp2_with fail
      obtain ⟨dz, ez⟩ := lay_all w [.inr d, .inl (.cells #[.int .u64 (nt r 0 : Int), .int .u64 (nt r 1 : Int), .int .u64 (nt r 2 : Int), .int .u64 (nt r 3 : Int)] 175 (0, 0)), .inl (.cells (nuA r) 175 (0, 0))]
      exact bodyPost_ret (v := .agg #[.int .u64 (nt r 0 : Int), .int .u64 (nt r 1 : Int), .int .u64 (nt r 2 : Int), .int .u64 (nt r 3 : Int)]) (by simp [results, Tryz.results182, go_sem]) rfl ⟨r, dz, rfl, ez, HS.out.wd, HS.out.done ha⟩
    · have hi : k < 4 := by omega
      have x0 : (0 : Int) ≤ (k : Int) := by omega
      have x1 : (k : Int) < 4 := by omega
      have x2 : (k : Int).toNat = k := by omega
      obtain ⟨hq, hN⟩ := hS.step ha hi
      obtain ⟨X, hX⟩ : ∃ X, nt r k = X := ⟨_, rfl⟩
      have g0 := nuA_get (l := r) (i := k) (by rw [hS.wd.len]; exact hi)
      have HC := Lib.hid (fun W => div64 t X dv hS.td (by rw [← hX]; exact hS.wd.lt k) hd W)
      rw [hX] at g0 hN hq
      obtain ⟨Q, hQ⟩ : ∃ Q, (t * 18446744073709551616 + X) / dv = Q := ⟨_, rfl⟩
      obtain ⟨T, hT⟩ : ∃ T, (t * 18446744073709551616 + X) % dv = T := ⟨_, rfl⟩
      rw [hQ, hT] at hN HC
      have HN := Lib.hid hN
      clear hS hN hQ hT hX hq
      go_wp2_with (go_at_call 170; refine (HC.out _).mono ?_; rintro e w' ⟨rfl, d1, rfl⟩)
      rw [nuA_set]
      obtain ⟨d3, e3⟩ := lay_fold w [.inr d1, .inr d] [.inl (.cells #[.int .u64 0, .int .u64 0, .int .u64 0, .int .u64 0] 175 (0, 0)), .inl (.cells (nuA (r.set k Q)) 175 (0, 0))]
      change lay w [.inr d1, .inr d, .inl (.cells #[.int .u64 0, .int .u64 0, .int .u64 0, .int .u64 0] 175 (0, 0)), .inl (.cells (nuA (r.set k Q)) 175 (0, 0))] = _ at e3
      rw [e3]
      clear e3
      go_roundw
      case rel => exact ⟨k + 1, T, r.set k Q, d3, by omega, rfl, by first | rfl | exact congrArg (Value.int .i64) (by omega), rfl, HN.out⟩
      case measure => simp [intOf]; omega
end Go.Proofs.YtkhhdpndcidmgaaGreat
/- An angle in radians, as a number of four words. -/
namespace Go.Proofs.YtkhhdpndcidmgaaGreat
open Go.RowKit

def piL : List Nat := [2611923443488327891, 1376283091369227076, 11820040416388919760, 589684135938649225]
theorem piL_wd : Wd 4 piL := ⟨rfl, fun i => by
  unfold piL nt
  match i with
  | 0 => decide
  | 1 => decide
  | 2 => decide
  | 3 => decide
  | i + 4 => simp⟩
structure MulI (p : List Nat) (n : Nat) (r : List Nat) (k t : Nat) : Prop where
  wd : Wd 4 r
  old : ∀ j, j < k → nt r j = nt p j
  tn : t ≤ n
  eq : valB 18446744073709551616 (r.drop k) + t * 18446744073709551616 ^ (4 - k) = n * valB 18446744073709551616 (p.drop k)
theorem MulI.start {p : List Nat} {n : Nat} (hp : Wd 4 p) : MulI p n p 4 0 := ⟨hp, fun _ _ => rfl, Nat.zero_le _, by
  rw [List.drop_eq_nil_of_le (by rw [hp.len]; exact Nat.le_refl 4)]
  simp [valB]⟩
theorem mul_word {B x n t : Nat} (hx : x < B) (ht : t ≤ n) (hn : n < B) : ∃ hi lo s c : Nat, lo < B ∧ s < B ∧ c ≤ 1 ∧ hi + c < B ∧ x * n / B = hi ∧ x * n % B = lo ∧ (lo + t + 0) % B = s ∧ (lo + t + 0) / B = c ∧ s + (hi + c) * B = x * n + t ∧ hi + c ≤ n := by
  have hB : 0 < B := by omega
  have h1 := Nat.div_add_mod (x * n) B
  have h2 := Nat.mod_lt (x * n) hB
  obtain ⟨s, c, hs, hc, e1, e2, e3⟩ := add_word (x := x * n % B) (y := t) (c := 0) h2 (by omega) (by omega)
  have e4 : s + (x * n / B + c) * B = x * n + t := by
    rw [Nat.add_mul, Nat.mul_comm (x * n / B) B]
    omega
  have hle : x * n / B + c ≤ n := by
    have h5 : (x * n / B + c) * B ≤ x * n + t := by omega
    have h6 : (x + 1) * n ≤ B * n := Nat.mul_le_mul_right _ hx
    rw [Nat.succ_mul] at h6
    have h7 : (x * n / B + c) * B ≤ n * B := by rw [Nat.mul_comm n B]; omega
    exact Nat.le_of_mul_le_mul_right h7 hB
  exact ⟨_, _, s, c, h2, hs, hc, by omega, rfl, rfl, e1, e2, e4, hle⟩
theorem MulI.step {p r : List Nat} {n i t s t' : Nat} (h : MulI p n r (i + 1) t) (hp : Wd 4 p) (hi : i < 4) (hs : s < 18446744073709551616) (ht : t' ≤ n) (e : s + t' * 18446744073709551616 = nt r i * n + t) : MulI p n (r.set i s) i t' := by
  refine ⟨h.wd.set hi hs, fun j hj => by rw [nt_set (by rw [h.wd.len]; exact hi), if_neg (by omega)]; exact h.old j (by omega), ht, ?_⟩
  have he := h.eq
  rw [h.old i (by omega)] at e
  rw [valB_drop (l := r.set i s) (by rw [List.length_set, h.wd.len]; exact hi), valB_drop (l := p) (by rw [hp.len]; exact hi), drop_set, nt_set (by rw [h.wd.len]; exact hi), if_pos rfl, List.length_set, h.wd.len, hp.len]
  rw [show 4 - (i + 1) = 4 - i - 1 by omega] at he
  have hpw : 18446744073709551616 ^ (4 - i) = 18446744073709551616 ^ (4 - i - 1) * 18446744073709551616 := by rw [← Nat.pow_succ]; congr 1; omega
  rw [hpw]
  generalize 18446744073709551616 ^ (4 - i - 1) = P at *
  generalize (18446744073709551616 : Nat) = B at *
  have e2 : (s + t' * B) * P = (nt p i * n + t) * P := by rw [e]
  grind
theorem MulI.done {p r : List Nat} {n t : Nat} (h : MulI p n r 0 t) : val4 r + t * 18446744073709551616 ^ 4 = n * val4 p := by
  have := h.eq
  simpa [val4] using this
theorem piL_val : piN = 3 * 18446744073709551616 ^ 4 + val4 piL := by decide +kernel
theorem piL_lt : val4 piL < 18446744073709551616 ^ 4 := val4_lt piL_wd
theorem rad_top {r : List Nat} {n t : Nat} (hn : n ≤ 2700000) (h : MulI piL n r 0 t) : t + 3 * n < 10800000 ∧ (t + 3 * n) * 18446744073709551616 ^ 4 + val4 r = n * piN := by
  have he := h.done
  have hp := piL_lt
  rw [piL_val]
  generalize 18446744073709551616 ^ 4 = W at *
  generalize val4 piL = p at *
  constructor
  · rcases Nat.eq_zero_or_pos n with h0 | h0
    · have := h.tn; omega
    · have h1 : t * W ≤ n * p := by omega
      have h2 : n * p < n * W := Nat.mul_lt_mul_of_pos_left hp h0
      have h3 : t < n := Nat.lt_of_mul_lt_mul_right (Nat.lt_of_le_of_lt h1 h2)
      omega
  · rw [Nat.add_mul, Nat.mul_add, ← he]
    have : n * (3 * W) = 3 * n * W := by grind
    omega

set_option maxHeartbeats 1000000 in
set_option maxRecDepth 100000 in
theorem tr_radians (n : Nat) (hn : n ≤ 2700000) (w : World) :
    Calls Tryz.prog 149 #[.int .i64 (n : Int)] w fun e w' => ∃ r d, e = .returned (nuV r) ∧ w' = bw w d ∧ Wd 4 r ∧ val4 r = n * piN / 10800000 := by
  refine lay_start ?_
  have k1 : IntKind.u64.wrap (n : Int) = (n : Int) := IntWalk.u64_in _ (by omega)
  unfold nuV
  go_enter Tryz.func149, Tryz.ntmps149
  go_wp2_with fail
  go_loopw [4, 5, 6, 7, 8, 9] (fun v4 v5 _ _ _ _ wr => ∃ (k t : Nat) (r : List Nat) (d : Ext), k ≤ 4 ∧ v4 = .int .u64 (t : Int) ∧ v5 = .int .i64 ((k : Int) - 1) ∧ wr = lay w [.inr d, .inl (.cells (nuA r) 175 (0, 0)), .inl (.cells #[.int .u64 0, .int .u64 0, .int .u64 0, .int .u64 0] 175 (0, 0))] ∧ MulI piL n r k t) (fun _ v5 _ _ _ _ _ => (intOf v5 + 1).toNat)
  case atStart => exact ⟨4, 0, piL, noExt _, Nat.le_refl _, rfl, rfl, (bw_noExt _).symm, MulI.start piL_wd⟩
  case round =>
    obtain ⟨k, t, r, d, hk, rfl, rfl, rfl, hS⟩ := hrel
    have HS := Lib.hid hS
    rcases k with _ | i
    · rw [show ((0 : Nat) : Int) - 1 = -1 from rfl]
      have g0 := nuA_get (l := r) (i := 0) (by rw [hS.wd.len]; decide)
      have g1 := nuA_get (l := r) (i := 1) (by rw [hS.wd.len]; decide)
      have g2 := nuA_get (l := r) (i := 2) (by rw [hS.wd.len]; decide)
      have g3 := nuA_get (l := r) (i := 3) (by rw [hS.wd.len]; decide)
      obtain ⟨q1, q2⟩ := rad_top hn hS
      have HD := Lib.hid (fun W => nm_div r (t + 3 * n) 10800000 hS.wd q1 (by decide) W)
      unfold nuV at HD
      rw [q2] at HD
      have z1 : (t : Int) + 3 * (n : Int) = ((t + 3 * n : Nat) : Int) := by omega
      obtain ⟨T, hT⟩ : ∃ T, t + 3 * n = T := ⟨_, rfl⟩
      rw [hT] at HD q1 z1
      have z2 : IntKind.u64.wrap ((3 : Int) * (n : Int)) = 3 * (n : Int) := IntWalk.u64_in _ (by omega)
      have z3 : IntKind.u64.wrap ((t : Int) + 3 * (n : Int)) = (T : Int) := (IntWalk.u64_in _ (by omega)).trans z1
      have z4 : (T : Int).tmod 10800000 = (T : Int) := by rw [Int.tmod_eq_emod_of_nonneg (by omega)]; omega
      have z5 : IntKind.u64.wrap (T : Int) = (T : Int) := IntWalk.u64_in _ (by omega)
      rw [show ((10800000 : Nat) : Int) = 10800000 from rfl] at HD
      clear hS q2 hT
      go_wp2_with fail
      refine (HD.out _).mono ?_
      rintro e w' ⟨r2, d2, rfl, rfl, hw2, hv2⟩
      have HW2 := Lib.hid (And.intro hw2 hv2)
      clear hw2 hv2
      go_wp2_with fail
      obtain ⟨dz, ez⟩ := lay_all w [.inr d2, .inr d, .inl (.cells (nuA r) 175 (0, 0)), .inl (.cells #[.int .u64 (nt r2 0 : Int), .int .u64 (nt r2 1 : Int), .int .u64 (nt r2 2 : Int), .int .u64 (nt r2 3 : Int)] 175 (0, 0))]
      exact bodyPost_ret (v := .agg #[.int .u64 (nt r2 0 : Int), .int .u64 (nt r2 1 : Int), .int .u64 (nt r2 2 : Int), .int .u64 (nt r2 3 : Int)]) (by simp [results, Tryz.results149, go_sem]) rfl ⟨r2, dz, rfl, ez, HW2.out.1, HW2.out.2⟩
    · rw [show ((i + 1 : Nat) : Int) - 1 = (i : Int) by omega]
      have hi : i < 4 := by omega
      have x0 : (0 : Int) ≤ (i : Int) := by omega
      have x1 : (i : Int) < 4 := by omega
      have x2 : (i : Int).toNat = i := by omega
      obtain ⟨X, hX⟩ : ∃ X, nt r i = X := ⟨_, rfl⟩
      have g0 := nuA_get (l := r) (i := i) (by rw [hS.wd.len]; exact hi)
      rw [hX] at g0
      have hXl : X < 18446744073709551616 := by rw [← hX]; exact hS.wd.lt i
      obtain ⟨HI, LO, SS, CC, hLO, hSS, hCC, hHC, e1, e2, e3, e4, e5, e6⟩ := mul_word (x := X) (n := n) (t := t) hXl hS.tn (by omega)
      have HM := Lib.hid (fun W => Tryz.bits_Mul64 X n hXl (by omega) W)
      rw [e1, e2] at HM
      have hcall : ∀ W, (callFunc 180 #[.int .u64 (LO : Int), .int .u64 (t : Int), .int .u64 0]).run Tryz.prog W = .ok (.value (.tuple #[.int .u64 (SS : Int), .int .u64 (CC : Int)])) W := fun W => by
        have := add64 LO t 0 (by omega) W
        rw [e3, e4] at this
        exact this
      have kHC : IntKind.u64.wrap ((HI : Int) + (CC : Int)) = (HI : Int) + (CC : Int) := IntWalk.u64_in _ (by omega)
      have HN := Lib.hid (hS.step piL_wd hi hSS e6 (by rw [hX]; exact e5))
      clear hS e1 e2 e3 e4 e5 e6 hX hXl
      go_wp2_with (go_at_call 169; refine (HM.out _).mono ?_; rintro e w' ⟨rfl, hw⟩; rw [hw])
      rw [nuA_set]
      go_roundw
      case rel => exact ⟨i, HI + CC, r.set i SS, d, by omega, by first | rfl | exact congrArg (Value.int .u64) (by omega), rfl, rfl, HN.out⟩
      case measure => simp [intOf]
end Go.Proofs.YtkhhdpndcidmgaaGreat
