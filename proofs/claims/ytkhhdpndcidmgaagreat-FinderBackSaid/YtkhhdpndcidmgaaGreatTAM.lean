/- Contracts and plain laws, several texts in one: Qn1 -/
import Derived.Test.YtkhhdpndcidmgaaGreatProg
import Derived.WalkKit
import Derived.WalkSpells
import Derived.WalkLawsBesides
import Derived.Lib.Hide
import Derived.BigQuiet
import Derived.Test.YtkhhdpndcidmgaaGreatTAE
import Derived.Test.YtkhhdpndcidmgaaGreatTAF
import Derived.Test.YtkhhdpndcidmgaaGreatTAH
import Derived.Test.YtkhhdpndcidmgaaGreatTAI
import Derived.Test.YtkhhdpndcidmgaaGreatTAL
/- Numbers of an integral part and three words of the fraction: sums, differences, parts, multiples, comparison. -/
namespace Go.Proofs.YtkhhdpndcidmgaaGreat
set_option maxHeartbeats 4000000
set_option maxRecDepth 100000
open Go.RowKit

def LowA (B : Nat) (a b r : List Nat) (k c : Nat) : Prop := valB B (r.drop k) + c * B ^ (4 - k) = valB B (a.drop k) + valB B (b.drop k)
theorem lowA_step {B : Nat} {a b r : List Nat} {i c d c' : Nat} (ha : a.length = 4) (hb : b.length = 4) (hr : r.length = 4) (hi : i < 4) (h : LowA B a b r (i + 1) c) (e : d + c' * B = nt a i + nt b i + c) : LowA B a b (r.set i d) i c' := by
  unfold LowA at *
  rw [valB_drop (l := r.set i d) (by rw [List.length_set, hr]; exact hi), valB_drop (l := b) (by rw [hb]; exact hi), valB_drop (l := a) (by rw [ha]; exact hi), drop_set, nt_set (by rw [hr]; exact hi), if_pos rfl, List.length_set, ha, hb, hr]
  have hp : B ^ (4 - i) = B ^ (4 - i - 1) * B := by rw [← Nat.pow_succ]; congr 1; omega
  rw [hp]
  rw [show 4 - (i + 1) = 4 - i - 1 by omega] at h
  generalize B ^ (4 - i - 1) = P at *
  have e2 : (d + c' * B) * P = (nt a i + nt b i + c) * P := by rw [e]
  grind
structure AddI (a b r : List Nat) (k c : Nat) : Prop where
  wd : Wd 4 r
  old : ∀ j, j < k → nt r j = nt a j
  c1 : c ≤ 1
  low : LowA 18446744073709551616 a b r k c
theorem AddI.start {a b : List Nat} (ha : Wd 4 a) (hb : Wd 4 b) : AddI a b a 4 0 := ⟨ha, fun _ _ => rfl, by omega, by
  unfold LowA
  rw [List.drop_eq_nil_of_le (by rw [ha.len]; exact Nat.le_refl 4), List.drop_eq_nil_of_le (by rw [hb.len]; exact Nat.le_refl 4)]
  simp [valB]⟩
theorem AddI.step {a b r : List Nat} {i c d c' : Nat} (h : AddI a b r (i + 1) c) (ha : Wd 4 a) (hb : Wd 4 b) (hi : i < 4) (hd : d < 18446744073709551616) (hc : c' ≤ 1) (e : d + c' * 18446744073709551616 = nt r i + nt b i + c) : AddI a b (r.set i d) i c' :=
  ⟨h.wd.set hi hd, fun j hj => by rw [nt_set (by rw [h.wd.len]; exact hi), if_neg (by omega)]; exact h.old j (by omega), hc, lowA_step ha.len hb.len h.wd.len hi h.low (by rw [← h.old i (by omega)]; exact e)⟩
theorem AddI.done {a b r : List Nat} {c : Nat} (h : AddI a b r 0 c) : c ≤ 1 ∧ val4 r + c * 18446744073709551616 ^ 4 = val4 a + val4 b := ⟨h.c1, by have := h.low; unfold LowA at this; simpa [val4] using this⟩
theorem qn_sub (a b : List Nat) (ha : Wd 4 a) (hb : Wd 4 b) (w : World) :
    Calls Tryz.prog 202 #[nuV a, nuV b] w fun e w' => ∃ r d, e = .returned (nuV r) ∧ w' = bw w d ∧ Wd 4 r ∧ ∃ c, c ≤ 1 ∧ val4 r + val4 b = val4 a + c * 18446744073709551616 ^ 4 := by
  refine lay_start ?_
  unfold nuV
  go_enter Tryz.func202, Tryz.ntmps202
  go_wp2_with fail
  rw [← nuA_four ha.len, ← nuA_four hb.len]
  go_loopw [5, 6] (fun v5 v6 wr => ∃ (k c : Nat) (r : List Nat) (d : Ext), k ≤ 4 ∧ v5 = .int .u64 (c : Int) ∧ v6 = .int .i64 ((k : Int) - 1) ∧ wr = lay w [.inr d, .inl (.cells #[.int .u64 0, .int .u64 0, .int .u64 0, .int .u64 0] 166 (0, 0)), .inl (.cells (nuA b) 166 (0, 0)), .inl (.cells (nuA r) 166 (0, 0))] ∧ SubI a b r k c) (fun _ v6 _ => (intOf v6 + 1).toNat)
  case atStart => exact ⟨4, 0, a, noExt _, Nat.le_refl _, rfl, rfl, (bw_noExt _).symm, SubI.start ha hb⟩
  case round =>
    obtain ⟨k, c, r, d, hk, rfl, rfl, rfl, hS⟩ := hrel
    have HS := Lib.hid hS
    rcases k with _ | i
    · rw [show ((0 : Nat) : Int) - 1 = -1 from rfl]
      have g0 := nuA_get (l := r) (i := 0) (by rw [hS.wd.len]; decide)
      have g1 := nuA_get (l := r) (i := 1) (by rw [hS.wd.len]; decide)
      have g2 := nuA_get (l := r) (i := 2) (by rw [hS.wd.len]; decide)
      have g3 := nuA_get (l := r) (i := 3) (by rw [hS.wd.len]; decide)
      clear hS
      go_wp2_with fail
      obtain ⟨dz, ez⟩ := lay_all w [.inr d, .inl (.cells #[.int .u64 (nt r 0 : Int), .int .u64 (nt r 1 : Int), .int .u64 (nt r 2 : Int), .int .u64 (nt r 3 : Int)] 166 (0, 0)), .inl (.cells (nuA b) 166 (0, 0)), .inl (.cells (nuA r) 166 (0, 0))]
      exact bodyPost_ret (v := .agg #[.int .u64 (nt r 0 : Int), .int .u64 (nt r 1 : Int), .int .u64 (nt r 2 : Int), .int .u64 (nt r 3 : Int)]) (by simp [results, Tryz.results202, go_sem]) rfl ⟨r, dz, rfl, ez, HS.out.wd, c, HS.out.done⟩
    · rw [show ((i + 1 : Nat) : Int) - 1 = (i : Int) by omega]
      have hi : i < 4 := by omega
      have x0 : (0 : Int) ≤ (i : Int) := by omega
      have x1 : (i : Int) < 4 := by omega
      have x2 : (i : Int).toNat = i := by omega
      obtain ⟨X, hX⟩ : ∃ X, nt r i = X := ⟨_, rfl⟩
      obtain ⟨Y, hY⟩ : ∃ Y, nt b i = Y := ⟨_, rfl⟩
      have g0 := nuA_get (l := r) (i := i) (by rw [hS.wd.len]; exact hi)
      have g1 := nuA_get (l := b) (i := i) (by rw [hb.len]; exact hi)
      rw [hX] at g0
      rw [hY] at g1
      obtain ⟨D, c', hD, hc', e1, e2, e3⟩ := sub_word (x := X) (y := Y) (b := c) (B := 18446744073709551616) (by rw [← hX]; exact hS.wd.lt i) (by rw [← hY]; exact hb.lt i) hS.c1
      have hcall := fun W => sub64 X Y c hS.c1 W
      rw [e1, e2] at hcall
      have HN := Lib.hid (hS.step ha hb hi hD hc' (by rw [hX, hY]; exact e3))
      clear hS e1 e2 e3
      have hz : c ≤ 1 := HS.out.c1
      go_wp2_with fail
      refine region_mixS 13 [(0, 2), (1, 2), (2, 2), (3, 0), (4, 2), (5, 2), (6, 0), (7, 2), (8, 2), (9, 2), (10, 2), (11, 2), (12, 2), (13, 3), (14, 2)] (by kernel_rfl) (by kernel_rfl) (by kernel_rfl) rfl ?_
      repeat (first | (refine wpMS_pure rfl (fun K hK => ?_); go_simp; refine hK _ ?_; clear hK K) | (refine wpMS_quiet rfl (fun K hK => ?_); go_simp; first | (refine hK _ ?_; clear hK K) | (apply Exists.intro; refine ⟨fun _ => ?_, hK _ ?_⟩; (first | fail); clear hK K)))
      refine wpMS_store rfl (fun K hK e1 => ?_)
      rw [lay_bw]
      go_simp
      refine hK _ _ ?_
      clear hK K
      rw [nuA_set]
      repeat (first | (refine wpMS_pure rfl (fun K hK => ?_); go_simp; refine hK _ ?_; clear hK K) | (refine wpMS_quiet rfl (fun K hK => ?_); go_simp; first | (refine hK _ ?_; clear hK K) | (apply Exists.intro; refine ⟨fun _ => ?_, hK _ ?_⟩; (first | fail); clear hK K)))
      refine wpMS_nil (fun e2 => ?_)
      rw [lay_bw]
      obtain ⟨d3, e3⟩ := lay_fold w [.inr e2, .inr e1, .inr d] [.inl (.cells #[.int .u64 0, .int .u64 0, .int .u64 0, .int .u64 0] 166 (0, 0)), .inl (.cells (nuA b) 166 (0, 0)), .inl (.cells (nuA (r.set i D)) 166 (0, 0))]
      change lay w [.inr e2, .inr e1, .inr d, .inl (.cells #[.int .u64 0, .int .u64 0, .int .u64 0, .int .u64 0] 166 (0, 0)), .inl (.cells (nuA b) 166 (0, 0)), .inl (.cells (nuA (r.set i D)) 166 (0, 0))] = _ at e3
      rw [e3]
      clear e3
      go_wp2_with fail
      go_roundw
      case rel => exact ⟨i, c', r.set i D, d3, by omega, rfl, rfl, rfl, HN.out⟩
      case measure => simp [intOf]
theorem qn_add (a b : List Nat) (ha : Wd 4 a) (hb : Wd 4 b) (w : World) :
    Calls Tryz.prog 203 #[nuV a, nuV b] w fun e w' => ∃ r d, e = .returned (nuV r) ∧ w' = bw w d ∧ Wd 4 r ∧ ∃ c, c ≤ 1 ∧ val4 r + c * 18446744073709551616 ^ 4 = val4 a + val4 b := by
  refine lay_start ?_
  unfold nuV
  go_enter Tryz.func203, Tryz.ntmps203
  go_wp2_with fail
  rw [← nuA_four ha.len, ← nuA_four hb.len]
  go_loopw [5, 6] (fun v5 v6 wr => ∃ (k c : Nat) (r : List Nat) (d : Ext), k ≤ 4 ∧ v5 = .int .u64 (c : Int) ∧ v6 = .int .i64 ((k : Int) - 1) ∧ wr = lay w [.inr d, .inl (.cells #[.int .u64 0, .int .u64 0, .int .u64 0, .int .u64 0] 166 (0, 0)), .inl (.cells (nuA b) 166 (0, 0)), .inl (.cells (nuA r) 166 (0, 0))] ∧ AddI a b r k c) (fun _ v6 _ => (intOf v6 + 1).toNat)
  case atStart => exact ⟨4, 0, a, noExt _, Nat.le_refl _, rfl, rfl, (bw_noExt _).symm, AddI.start ha hb⟩
  case round =>
    obtain ⟨k, c, r, d, hk, rfl, rfl, rfl, hS⟩ := hrel
    have HS := Lib.hid hS
    rcases k with _ | i
    · rw [show ((0 : Nat) : Int) - 1 = -1 from rfl]
      have g0 := nuA_get (l := r) (i := 0) (by rw [hS.wd.len]; decide)
      have g1 := nuA_get (l := r) (i := 1) (by rw [hS.wd.len]; decide)
      have g2 := nuA_get (l := r) (i := 2) (by rw [hS.wd.len]; decide)
      have g3 := nuA_get (l := r) (i := 3) (by rw [hS.wd.len]; decide)
      clear hS
      go_wp2_with fail
      obtain ⟨dz, ez⟩ := lay_all w [.inr d, .inl (.cells #[.int .u64 (nt r 0 : Int), .int .u64 (nt r 1 : Int), .int .u64 (nt r 2 : Int), .int .u64 (nt r 3 : Int)] 166 (0, 0)), .inl (.cells (nuA b) 166 (0, 0)), .inl (.cells (nuA r) 166 (0, 0))]
      exact bodyPost_ret (v := .agg #[.int .u64 (nt r 0 : Int), .int .u64 (nt r 1 : Int), .int .u64 (nt r 2 : Int), .int .u64 (nt r 3 : Int)]) (by simp [results, Tryz.results203, go_sem]) rfl ⟨r, dz, rfl, ez, HS.out.wd, c, HS.out.done⟩
    · rw [show ((i + 1 : Nat) : Int) - 1 = (i : Int) by omega]
      have hi : i < 4 := by omega
      have x0 : (0 : Int) ≤ (i : Int) := by omega
      have x1 : (i : Int) < 4 := by omega
      have x2 : (i : Int).toNat = i := by omega
      obtain ⟨X, hX⟩ : ∃ X, nt r i = X := ⟨_, rfl⟩
      obtain ⟨Y, hY⟩ : ∃ Y, nt b i = Y := ⟨_, rfl⟩
      have g0 := nuA_get (l := r) (i := i) (by rw [hS.wd.len]; exact hi)
      have g1 := nuA_get (l := b) (i := i) (by rw [hb.len]; exact hi)
      rw [hX] at g0
      rw [hY] at g1
      obtain ⟨D, c', hD, hc', e1, e2, e3⟩ := add_word (x := X) (y := Y) (c := c) (B := 18446744073709551616) (by rw [← hX]; exact hS.wd.lt i) (by rw [← hY]; exact hb.lt i) hS.c1
      have hcall := fun W => add64 X Y c hS.c1 W
      rw [e1, e2] at hcall
      have HN := Lib.hid (hS.step ha hb hi hD hc' (by rw [hX, hY]; exact e3))
      clear hS e1 e2 e3
      have hz : c ≤ 1 := HS.out.c1
      go_wp2_with fail
      refine region_mixS 13 [(0, 2), (1, 2), (2, 2), (3, 0), (4, 2), (5, 2), (6, 0), (7, 2), (8, 2), (9, 2), (10, 2), (11, 2), (12, 2), (13, 3), (14, 2)] (by kernel_rfl) (by kernel_rfl) (by kernel_rfl) rfl ?_
      repeat (first | (refine wpMS_pure rfl (fun K hK => ?_); go_simp; refine hK _ ?_; clear hK K) | (refine wpMS_quiet rfl (fun K hK => ?_); go_simp; first | (refine hK _ ?_; clear hK K) | (apply Exists.intro; refine ⟨fun _ => ?_, hK _ ?_⟩; (first | fail); clear hK K)))
      refine wpMS_store rfl (fun K hK e1 => ?_)
      rw [lay_bw]
      go_simp
      refine hK _ _ ?_
      clear hK K
      rw [nuA_set]
      repeat (first | (refine wpMS_pure rfl (fun K hK => ?_); go_simp; refine hK _ ?_; clear hK K) | (refine wpMS_quiet rfl (fun K hK => ?_); go_simp; first | (refine hK _ ?_; clear hK K) | (apply Exists.intro; refine ⟨fun _ => ?_, hK _ ?_⟩; (first | fail); clear hK K)))
      refine wpMS_nil (fun e2 => ?_)
      rw [lay_bw]
      obtain ⟨d3, e3⟩ := lay_fold w [.inr e2, .inr e1, .inr d] [.inl (.cells #[.int .u64 0, .int .u64 0, .int .u64 0, .int .u64 0] 166 (0, 0)), .inl (.cells (nuA b) 166 (0, 0)), .inl (.cells (nuA (r.set i D)) 166 (0, 0))]
      change lay w [.inr e2, .inr e1, .inr d, .inl (.cells #[.int .u64 0, .int .u64 0, .int .u64 0, .int .u64 0] 166 (0, 0)), .inl (.cells (nuA b) 166 (0, 0)), .inl (.cells (nuA (r.set i D)) 166 (0, 0))] = _ at e3
      rw [e3]
      clear e3
      go_wp2_with fail
      go_roundw
      case rel => exact ⟨i, c', r.set i D, d3, by omega, rfl, rfl, rfl, HN.out⟩
      case measure => simp [intOf]
theorem qn_over (a : List Nat) (dv : Nat) (ha : Wd 4 a) (ht : 0 < dv) (hd : dv < 18446744073709551616) (w : World) :
    Calls Tryz.prog 177 #[nuV a, .int .u64 (dv : Int)] w fun e w' => ∃ r d, e = .returned (nuV r) ∧ w' = bw w d ∧ Wd 4 r ∧ val4 r = val4 a / dv := by
  refine lay_start ?_
  unfold nuV
  go_enter Tryz.func177, Tryz.ntmps177
  go_wp2_with fail
  rw [← nuA_four ha.len]
  go_loopw [5, 7] (fun v1 v8 wr => ∃ (k t : Nat) (r : List Nat) (d : Ext), k ≤ 4 ∧ v1 = .int .u64 (t : Int) ∧ v8 = .int .i64 (k : Int) ∧ wr = lay w [.inr d, .inl (.cells #[.int .u64 0, .int .u64 0, .int .u64 0, .int .u64 0] 166 (0, 0)), .inl (.cells (nuA r) 166 (0, 0))] ∧ DivI a 0 dv r k t) (fun _ v8 _ => 4 - (intOf v8).toNat)
  case atStart => exact ⟨0, 0, a, noExt _, by omega, rfl, rfl, (bw_noExt _).symm, DivI.start ha ht⟩
  case round =>
    obtain ⟨k, t, r, d, hk, rfl, rfl, rfl, hS⟩ := hrel
    have HS := Lib.hid hS
    by_cases hk4 : k = 4
    · subst hk4
      have g0 := nuA_get (l := r) (i := 0) (by rw [hS.wd.len]; decide)
      have g1 := nuA_get (l := r) (i := 1) (by rw [hS.wd.len]; decide)
      have g2 := nuA_get (l := r) (i := 2) (by rw [hS.wd.len]; decide)
      have g3 := nuA_get (l := r) (i := 3) (by rw [hS.wd.len]; decide)
      clear hS
      go_wp2_with fail
      obtain ⟨dz, ez⟩ := lay_all w [.inr d, .inl (.cells #[.int .u64 (nt r 0 : Int), .int .u64 (nt r 1 : Int), .int .u64 (nt r 2 : Int), .int .u64 (nt r 3 : Int)] 166 (0, 0)), .inl (.cells (nuA r) 166 (0, 0))]
      exact bodyPost_ret (v := .agg #[.int .u64 (nt r 0 : Int), .int .u64 (nt r 1 : Int), .int .u64 (nt r 2 : Int), .int .u64 (nt r 3 : Int)]) (by simp [results, Tryz.results177, go_sem]) rfl ⟨r, dz, rfl, ez, HS.out.wd, by have := HS.out.done ha; rw [Nat.zero_mul, Nat.zero_add] at this; exact this⟩
    · have hi : k < 4 := by omega
      have x0 : (0 : Int) ≤ (k : Int) := by omega
      have x1 : (k : Int) < 4 := by omega
      have x2 : (k : Int).toNat = k := by omega
      obtain ⟨hq, hN⟩ := hS.step ha hi
      obtain ⟨X, hX⟩ : ∃ X, nt r k = X := ⟨_, rfl⟩
      have g0 := nuA_get (l := r) (i := k) (by rw [hS.wd.len]; exact hi)
      have HC := Lib.hid (fun W => div64 t X dv hS.td (by rw [← hX]; exact hS.wd.lt k) hd W)
      rw [hX] at g0 hN hq
      obtain ⟨Q, hQ⟩ : ∃ Q, (t * 18446744073709551616 + X) / dv = Q := ⟨_, rfl⟩
      obtain ⟨T, hT⟩ : ∃ T, (t * 18446744073709551616 + X) % dv = T := ⟨_, rfl⟩
      rw [hQ, hT] at hN HC
      have HN := Lib.hid hN
      clear hS hN hQ hT hX hq
      go_wp2_with (go_at_call 170; refine (HC.out _).mono ?_; rintro e w' ⟨rfl, d1, rfl⟩)
      rw [nuA_set]
      obtain ⟨d3, e3⟩ := lay_fold w [.inr d1, .inr d] [.inl (.cells #[.int .u64 0, .int .u64 0, .int .u64 0, .int .u64 0] 166 (0, 0)), .inl (.cells (nuA (r.set k Q)) 166 (0, 0))]
      change lay w [.inr d1, .inr d, .inl (.cells #[.int .u64 0, .int .u64 0, .int .u64 0, .int .u64 0] 166 (0, 0)), .inl (.cells (nuA (r.set k Q)) 166 (0, 0))] = _ at e3
      rw [e3]
      clear e3
      go_roundw
      case rel => exact ⟨k + 1, T, r.set k Q, d3, by omega, rfl, by first | rfl | exact congrArg (Value.int .i64) (by omega), rfl, HN.out⟩
      case measure => simp [intOf]; omega
end Go.Proofs.YtkhhdpndcidmgaaGreat
