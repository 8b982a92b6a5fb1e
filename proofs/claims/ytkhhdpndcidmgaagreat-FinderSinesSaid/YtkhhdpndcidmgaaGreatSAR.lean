/- Contracts and plain laws, several texts in one: Nm2; Nm3; NmP -/
import Derived.Test.YtkhhdpndcidmgaaGreatProg
import Derived.WalkKit
import Derived.WalkSpells
import Derived.WalkLawsBesides
import Derived.Lib.Hide
import Derived.BigQuiet
import Derived.Test.YtkhhdpndcidmgaaGreatSAA
import Derived.Test.YtkhhdpndcidmgaaGreatSAC
import Derived.Test.YtkhhdpndcidmgaaGreatSAD
import Derived.Test.YtkhhdpndcidmgaaGreatSAE
import Derived.Test.YtkhhdpndcidmgaaGreatSAP
import Derived.Test.YtkhhdpndcidmgaaGreatSAQ
/- Quotients of numbers of four words by a word. -/
namespace Go.Proofs.YtkhhdpndcidmgaaGreat
open Go.RowKit

theorem valB_snoc {B x : Nat} : ∀ {l : List Nat}, valB B (l ++ [x]) = valB B l * B + x
  | [] => by simp [valB]
  | y :: l => by
    have ih := valB_snoc (B := B) (x := x) (l := l)
    simp only [List.cons_append, valB, ih, List.length_append, List.length_cons, List.length_nil, Nat.pow_succ]
    grind
theorem valB_take {B : Nat} {l : List Nat} {k : Nat} (h : k < l.length) : valB B (l.take (k + 1)) = valB B (l.take k) * B + nt l k := by
  rw [List.take_add_one, nt_lt h]
  exact valB_snoc
theorem take_set {l : List Nat} {i x : Nat} : (l.set i x).take i = l.take i := List.take_set_of_le (Nat.le_refl i)
theorem div_word {B t x d : Nat} (ht : t < d) (hx : x < B) : (t * B + x) / d < B := by
  rw [Nat.div_lt_iff_lt_mul (by omega)]
  have h1 : (t + 1) * B ≤ d * B := Nat.mul_le_mul_right _ ht
  rw [Nat.mul_comm B d]
  rw [Nat.succ_mul] at h1
  generalize d * B = D at *
  generalize t * B = T at *
  omega
structure DivI (a : List Nat) (t0 d : Nat) (r : List Nat) (k t : Nat) : Prop where
  wd : Wd 4 r
  old : ∀ j, k ≤ j → nt r j = nt a j
  td : t < d
  eq : t0 * 18446744073709551616 ^ k + valB 18446744073709551616 (a.take k) = valB 18446744073709551616 (r.take k) * d + t
theorem DivI.start {a : List Nat} {t0 d : Nat} (ha : Wd 4 a) (h : t0 < d) : DivI a t0 d a 0 t0 := ⟨ha, fun _ _ => rfl, h, by simp [valB]⟩
theorem DivI.step {a r : List Nat} {t0 d k t : Nat} (ha : Wd 4 a) (h : DivI a t0 d r k t) (hk : k < 4) : (t * 18446744073709551616 + nt r k) / d < 18446744073709551616 ∧ DivI a t0 d (r.set k ((t * 18446744073709551616 + nt r k) / d)) (k + 1) ((t * 18446744073709551616 + nt r k) % d) := by
  have hd : 0 < d := Nat.lt_of_le_of_lt (Nat.zero_le _) h.td
  have hx := h.wd.lt k
  have hq := div_word h.td hx
  refine ⟨hq, h.wd.set hk hq, fun j hj => ?_, Nat.mod_lt _ hd, ?_⟩
  · rw [nt_set (by rw [h.wd.len]; exact hk), if_neg (by omega)]
    exact h.old j (by omega)
  · rw [valB_take (by rw [ha.len]; exact hk), valB_take (by rw [List.length_set, h.wd.len]; exact hk), take_set, nt_set (by rw [h.wd.len]; exact hk), if_pos rfl, ← h.old k (Nat.le_refl k), Nat.pow_succ]
    have he := h.eq
    have hm := Nat.div_add_mod (t * 18446744073709551616 + nt r k) d
    generalize (t * 18446744073709551616 + nt r k) / d = q at *
    generalize (t * 18446744073709551616 + nt r k) % d = m at *
    generalize 18446744073709551616 ^ k = P at *
    generalize (18446744073709551616 : Nat) = B at *
    generalize valB B (a.take k) = A at *
    generalize valB B (r.take k) = R at *
    have e2 : (t0 * P + A) * B = (R * d + t) * B := by rw [he]
    grind
theorem DivI.done {a r : List Nat} {t0 d t : Nat} (ha : Wd 4 a) (h : DivI a t0 d r 4 t) : val4 r = (t0 * 18446744073709551616 ^ 4 + val4 a) / d := by
  have he := h.eq
  rw [List.take_of_length_le (by rw [ha.len]; exact Nat.le_refl 4), List.take_of_length_le (by rw [h.wd.len]; exact Nat.le_refl 4)] at he
  change t0 * 18446744073709551616 ^ 4 + val4 a = val4 r * d + t at he
  rw [he]
  have htd := h.td
  generalize val4 r = R at *
  rw [Nat.add_comm, Nat.add_mul_div_right _ _ (by omega), Nat.div_eq_of_lt htd, Nat.zero_add]

set_option maxHeartbeats 1000000 in
set_option maxRecDepth 100000 in
theorem nm_div (a : List Nat) (t0 dv : Nat) (ha : Wd 4 a) (ht : t0 < dv) (hd : dv < 18446744073709551616) (w : World) :
    Calls Tryz.prog 182 #[nuV a, .int .u64 (t0 : Int), .int .u64 (dv : Int)] w fun e w' => ∃ r d, e = .returned (nuV r) ∧ w' = bw w d ∧ Wd 4 r ∧ val4 r = (t0 * 18446744073709551616 ^ 4 + val4 a) / dv := by
  refine lay_start ?_
  unfold nuV
  go_enter Tryz.func182, Tryz.ntmps182
  go_wp2_with fail
  rw [← nuA_four ha.len]
  go_loopw [1, 8] (fun v1 v8 wr => ∃ (k t : Nat) (r : List Nat) (d : Ext), k ≤ 4 ∧ v1 = .int .u64 (t : Int) ∧ v8 = .int .i64 (k : Int) ∧ wr = lay w [.inr d, .inl (.cells #[.int .u64 0, .int .u64 0, .int .u64 0, .int .u64 0] 175 (0, 0)), .inl (.cells (nuA r) 175 (0, 0))] ∧ DivI a t0 dv r k t) (fun _ v8 _ => 4 - (intOf v8).toNat)
  case atStart => exact ⟨0, t0, a, noExt _, by omega, rfl, rfl, (bw_noExt _).symm, DivI.start ha ht⟩
  case round =>
    obtain ⟨k, t, r, d, hk, rfl, rfl, rfl, hS⟩ := hrel
    have HS := Lib.hid hS
    by_cases hk4 : k = 4
    · subst hk4
      have g0 := nuA_get (l := r) (i := 0) (by rw [hS.wd.len]; decide)
      have g1 := nuA_get (l := r) (i := 1) (by rw [hS.wd.len]; decide)
      have g2 := nuA_get (l := r) (i := 2) (by rw [hS.wd.len]; decide)
      have g3 := nuA_get (l := r) (i := 3) (by rw [hS.wd.len]; decide)
      clear hS
      go_wp2_with fail
      obtain ⟨dz, ez⟩ := lay_all w [.inr d, .inl (.cells #[.int .u64 (nt r 0 : Int), .int .u64 (nt r 1 : Int), .int .u64 (nt r 2 : Int), .int .u64 (nt r 3 : Int)] 175 (0, 0)), .inl (.cells (nuA r) 175 (0, 0))]
      exact bodyPost_ret (v := .agg #[.int .u64 (nt r 0 : Int), .int .u64 (nt r 1 : Int), .int .u64 (nt r 2 : Int), .int .u64 (nt r 3 : Int)]) (by simp [results, Tryz.results182, go_sem]) rfl ⟨r, dz, rfl, ez, HS.out.wd, HS.out.done ha⟩
    · have hi : k < 4 := by omega
      have x0 : (0 : Int) ≤ (k : Int) := by omega
      have x1 : (k : Int) < 4 := by omega
      have x2 : (k : Int).toNat = k := by omega
      obtain ⟨hq, hN⟩ := hS.step ha hi
      obtain ⟨X, hX⟩ : ∃ X, nt r k = X := ⟨_, rfl⟩
      have g0 := nuA_get (l := r) (i := k) (by rw [hS.wd.len]; exact hi)
      have HC := Lib.hid (fun W => div64 t X dv hS.td (by rw [← hX]; exact hS.wd.lt k) hd W)
      rw [hX] at g0 hN hq
      obtain ⟨Q, hQ⟩ : ∃ Q, (t * 18446744073709551616 + X) / dv = Q := ⟨_, rfl⟩
      obtain ⟨T, hT⟩ : ∃ T, (t * 18446744073709551616 + X) % dv = T := ⟨_, rfl⟩
      rw [hQ, hT] at hN HC
      have HN := Lib.hid hN
      clear hS hN hQ hT hX hq
      go_wp2_with (go_at_call 170; refine (HC.out _).mono ?_; rintro e w' ⟨rfl, d1, rfl⟩)
      rw [nuA_set]
      obtain ⟨d3, e3⟩ := lay_fold w [.inr d1, .inr d] [.inl (.cells #[.int .u64 0, .int .u64 0, .int .u64 0, .int .u64 0] 175 (0, 0)), .inl (.cells (nuA (r.set k Q)) 175 (0, 0))]
      change lay w [.inr d1, .inr d, .inl (.cells #[.int .u64 0, .int .u64 0, .int .u64 0, .int .u64 0] 175 (0, 0)), .inl (.cells (nuA (r.set k Q)) 175 (0, 0))] = _ at e3
      rw [e3]
      clear e3
      go_roundw
      case rel => exact ⟨k + 1, T, r.set k Q, d3, by omega, rfl, by first | rfl | exact congrArg (Value.int .i64) (by omega), rfl, HN.out⟩
      case measure => simp [intOf]; omega
end Go.Proofs.YtkhhdpndcidmgaaGreat
/- An angle in radians, as a number of four words. -/
namespace Go.Proofs.YtkhhdpndcidmgaaGreat
open Go.RowKit

def piL : List Nat := [2611923443488327891, 1376283091369227076, 11820040416388919760, 589684135938649225]
theorem piL_wd : Wd 4 piL := ⟨rfl, fun i => by
  unfold piL nt
  match i with
  | 0 => decide
  | 1 => decide
  | 2 => decide
  | 3 => decide
  | i + 4 => simp⟩
structure MulI (p : List Nat) (n : Nat) (r : List Nat) (k t : Nat) : Prop where
  wd : Wd 4 r
  old : ∀ j, j < k → nt r j = nt p j
  tn : t ≤ n
  eq : valB 18446744073709551616 (r.drop k) + t * 18446744073709551616 ^ (4 - k) = n * valB 18446744073709551616 (p.drop k)
theorem MulI.start {p : List Nat} {n : Nat} (hp : Wd 4 p) : MulI p n p 4 0 := ⟨hp, fun _ _ => rfl, Nat.zero_le _, by
  rw [List.drop_eq_nil_of_le (by rw [hp.len]; exact Nat.le_refl 4)]
  simp [valB]⟩
theorem mul_word {B x n t : Nat} (hx : x < B) (ht : t ≤ n) (hn : n < B) : ∃ hi lo s c : Nat, lo < B ∧ s < B ∧ c ≤ 1 ∧ hi + c < B ∧ x * n / B = hi ∧ x * n % B = lo ∧ (lo + t + 0) % B = s ∧ (lo + t + 0) / B = c ∧ s + (hi + c) * B = x * n + t ∧ hi + c ≤ n := by
  have hB : 0 < B := by omega
  have h1 := Nat.div_add_mod (x * n) B
  have h2 := Nat.mod_lt (x * n) hB
  obtain ⟨s, c, hs, hc, e1, e2, e3⟩ := add_word (x := x * n % B) (y := t) (c := 0) h2 (by omega) (by omega)
  have e4 : s + (x * n / B + c) * B = x * n + t := by
    rw [Nat.add_mul, Nat.mul_comm (x * n / B) B]
    omega
  have hle : x * n / B + c ≤ n := by
    have h5 : (x * n / B + c) * B ≤ x * n + t := by omega
    have h6 : (x + 1) * n ≤ B * n := Nat.mul_le_mul_right _ hx
    rw [Nat.succ_mul] at h6
    have h7 : (x * n / B + c) * B ≤ n * B := by rw [Nat.mul_comm n B]; omega
    exact Nat.le_of_mul_le_mul_right h7 hB
  exact ⟨_, _, s, c, h2, hs, hc, by omega, rfl, rfl, e1, e2, e4, hle⟩
theorem MulI.step {p r : List Nat} {n i t s t' : Nat} (h : MulI p n r (i + 1) t) (hp : Wd 4 p) (hi : i < 4) (hs : s < 18446744073709551616) (ht : t' ≤ n) (e : s + t' * 18446744073709551616 = nt r i * n + t) : MulI p n (r.set i s) i t' := by
  refine ⟨h.wd.set hi hs, fun j hj => by rw [nt_set (by rw [h.wd.len]; exact hi), if_neg (by omega)]; exact h.old j (by omega), ht, ?_⟩
  have he := h.eq
  rw [h.old i (by omega)] at e
  rw [valB_drop (l := r.set i s) (by rw [List.length_set, h.wd.len]; exact hi), valB_drop (l := p) (by rw [hp.len]; exact hi), drop_set, nt_set (by rw [h.wd.len]; exact hi), if_pos rfl, List.length_set, h.wd.len, hp.len]
  rw [show 4 - (i + 1) = 4 - i - 1 by omega] at he
  have hpw : 18446744073709551616 ^ (4 - i) = 18446744073709551616 ^ (4 - i - 1) * 18446744073709551616 := by rw [← Nat.pow_succ]; congr 1; omega
  rw [hpw]
  generalize 18446744073709551616 ^ (4 - i - 1) = P at *
  generalize (18446744073709551616 : Nat) = B at *
  have e2 : (s + t' * B) * P = (nt p i * n + t) * P := by rw [e]
  grind
theorem MulI.done {p r : List Nat} {n t : Nat} (h : MulI p n r 0 t) : val4 r + t * 18446744073709551616 ^ 4 = n * val4 p := by
  have := h.eq
  simpa [val4] using this
theorem piL_val : piN = 3 * 18446744073709551616 ^ 4 + val4 piL := by decide +kernel
theorem piL_lt : val4 piL < 18446744073709551616 ^ 4 := val4_lt piL_wd
theorem rad_top {r : List Nat} {n t : Nat} (hn : n ≤ 2700000) (h : MulI piL n r 0 t) : t + 3 * n < 10800000 ∧ (t + 3 * n) * 18446744073709551616 ^ 4 + val4 r = n * piN := by
  have he := h.done
  have hp := piL_lt
  rw [piL_val]
  generalize 18446744073709551616 ^ 4 = W at *
  generalize val4 piL = p at *
  constructor
  · rcases Nat.eq_zero_or_pos n with h0 | h0
    · have := h.tn; omega
    · have h1 : t * W ≤ n * p := by omega
      have h2 : n * p < n * W := Nat.mul_lt_mul_of_pos_left hp h0
      have h3 : t < n := Nat.lt_of_mul_lt_mul_right (Nat.lt_of_le_of_lt h1 h2)
      omega
  · rw [Nat.add_mul, Nat.mul_add, ← he]
    have : n * (3 * W) = 3 * n * W := by grind
    omega

set_option maxHeartbeats 1000000 in
set_option maxRecDepth 100000 in
theorem tr_radians (n : Nat) (hn : n ≤ 2700000) (w : World) :
    Calls Tryz.prog 149 #[.int .i64 (n : Int)] w fun e w' => ∃ r d, e = .returned (nuV r) ∧ w' = bw w d ∧ Wd 4 r ∧ val4 r = n * piN / 10800000 := by
  refine lay_start ?_
  have k1 : IntKind.u64.wrap (n : Int) = (n : Int) := IntWalk.u64_in _ (by omega)
  unfold nuV
  go_enter Tryz.func149, Tryz.ntmps149
  go_wp2_with fail
  go_loopw [4, 5, 6, 7, 8, 9] (fun v4 v5 _ _ _ _ wr => ∃ (k t : Nat) (r : List Nat) (d : Ext), k ≤ 4 ∧ v4 = .int .u64 (t : Int) ∧ v5 = .int .i64 ((k : Int) - 1) ∧ wr = lay w [.inr d, .inl (.cells (nuA r) 175 (0, 0)), .inl (.cells #[.int .u64 0, .int .u64 0, .int .u64 0, .int .u64 0] 175 (0, 0))] ∧ MulI piL n r k t) (fun _ v5 _ _ _ _ _ => (intOf v5 + 1).toNat)
  case atStart => exact ⟨4, 0, piL, noExt _, Nat.le_refl _, rfl, rfl, (bw_noExt _).symm, MulI.start piL_wd⟩
  case round =>
    obtain ⟨k, t, r, d, hk, rfl, rfl, rfl, hS⟩ := hrel
    have HS := Lib.hid hS
    rcases k with _ | i
    · rw [show ((0 : Nat) : Int) - 1 = -1 from rfl]
      have g0 := nuA_get (l := r) (i := 0) (by rw [hS.wd.len]; decide)
      have g1 := nuA_get (l := r) (i := 1) (by rw [hS.wd.len]; decide)
      have g2 := nuA_get (l := r) (i := 2) (by rw [hS.wd.len]; decide)
      have g3 := nuA_get (l := r) (i := 3) (by rw [hS.wd.len]; decide)
      obtain ⟨q1, q2⟩ := rad_top hn hS
      have HD := Lib.hid (fun W => nm_div r (t + 3 * n) 10800000 hS.wd q1 (by decide) W)
      unfold nuV at HD
      rw [q2] at HD
      have z1 : (t : Int) + 3 * (n : Int) = ((t + 3 * n : Nat) : Int) := by omega
      obtain ⟨T, hT⟩ : ∃ T, t + 3 * n = T := ⟨_, rfl⟩
      rw [hT] at HD q1 z1
      have z2 : IntKind.u64.wrap ((3 : Int) * (n : Int)) = 3 * (n : Int) := IntWalk.u64_in _ (by omega)
      have z3 : IntKind.u64.wrap ((t : Int) + 3 * (n : Int)) = (T : Int) := (IntWalk.u64_in _ (by omega)).trans z1
      have z4 : (T : Int).tmod 10800000 = (T : Int) := by rw [Int.tmod_eq_emod_of_nonneg (by omega)]; omega
      have z5 : IntKind.u64.wrap (T : Int) = (T : Int) := IntWalk.u64_in _ (by omega)
      rw [show ((10800000 : Nat) : Int) = 10800000 from rfl] at HD
      clear hS q2 hT
      go_wp2_with fail
      refine (HD.out _).mono ?_
      rintro e w' ⟨r2, d2, rfl, rfl, hw2, hv2⟩
      have HW2 := Lib.hid (And.intro hw2 hv2)
      clear hw2 hv2
      go_wp2_with fail
      obtain ⟨dz, ez⟩ := lay_all w [.inr d2, .inr d, .inl (.cells (nuA r) 175 (0, 0)), .inl (.cells #[.int .u64 (nt r2 0 : Int), .int .u64 (nt r2 1 : Int), .int .u64 (nt r2 2 : Int), .int .u64 (nt r2 3 : Int)] 175 (0, 0))]
      exact bodyPost_ret (v := .agg #[.int .u64 (nt r2 0 : Int), .int .u64 (nt r2 1 : Int), .int .u64 (nt r2 2 : Int), .int .u64 (nt r2 3 : Int)]) (by simp [results, Tryz.results149, go_sem]) rfl ⟨r2, dz, rfl, ez, HW2.out.1, HW2.out.2⟩
    · rw [show ((i + 1 : Nat) : Int) - 1 = (i : Int) by omega]
      have hi : i < 4 := by omega
      have x0 : (0 : Int) ≤ (i : Int) := by omega
      have x1 : (i : Int) < 4 := by omega
      have x2 : (i : Int).toNat = i := by omega
      obtain ⟨X, hX⟩ : ∃ X, nt r i = X := ⟨_, rfl⟩
      have g0 := nuA_get (l := r) (i := i) (by rw [hS.wd.len]; exact hi)
      rw [hX] at g0
      have hXl : X < 18446744073709551616 := by rw [← hX]; exact hS.wd.lt i
      obtain ⟨HI, LO, SS, CC, hLO, hSS, hCC, hHC, e1, e2, e3, e4, e5, e6⟩ := mul_word (x := X) (n := n) (t := t) hXl hS.tn (by omega)
      have HM := Lib.hid (fun W => Tryz.bits_Mul64 X n hXl (by omega) W)
      rw [e1, e2] at HM
      have hcall : ∀ W, (callFunc 180 #[.int .u64 (LO : Int), .int .u64 (t : Int), .int .u64 0]).run Tryz.prog W = .ok (.value (.tuple #[.int .u64 (SS : Int), .int .u64 (CC : Int)])) W := fun W => by
        have := add64 LO t 0 (by omega) W
        rw [e3, e4] at this
        exact this
      have kHC : IntKind.u64.wrap ((HI : Int) + (CC : Int)) = (HI : Int) + (CC : Int) := IntWalk.u64_in _ (by omega)
      have HN := Lib.hid (hS.step piL_wd hi hSS e6 (by rw [hX]; exact e5))
      clear hS e1 e2 e3 e4 e5 e6 hX hXl
      go_wp2_with (go_at_call 169; refine (HM.out _).mono ?_; rintro e w' ⟨rfl, hw⟩; rw [hw])
      rw [nuA_set]
      go_roundw
      case rel => exact ⟨i, HI + CC, r.set i SS, d, by omega, by first | rfl | exact congrArg (Value.int .u64) (by omega), rfl, rfl, HN.out⟩
      case measure => simp [intOf]
end Go.Proofs.YtkhhdpndcidmgaaGreat
/- Products of numbers of four words, row by row: the plain law. No walk. -/
namespace Go.Proofs.YtkhhdpndcidmgaaGreat
open Go.RowKit

theorem valB_set {B x : Nat} : ∀ {l : List Nat} {p : Nat}, p < l.length → valB B (l.set p x) + nt l p * B ^ (l.length - p - 1) = valB B l + x * B ^ (l.length - p - 1)
  | [], p, h => absurd h (Nat.not_lt_zero _)
  | y :: l, 0, _ => by
    simp only [List.set_cons_zero, valB, nt, List.getD_cons_zero, List.length_cons]
    rw [show l.length + 1 - 0 - 1 = l.length by omega]
    omega
  | y :: l, p + 1, h => by
    have ih := valB_set (B := B) (x := x) (l := l) (p := p) (by simpa using h)
    simp only [List.set_cons_succ, valB, nt, List.getD_cons_succ, List.length_cons, List.length_set] at ih ⊢
    rw [show l.length + 1 - (p + 1) - 1 = l.length - p - 1 by omega]
    omega
def rowM (B : Nat) (b : List Nat) (i : Nat) : Nat → Nat
  | 0 => 0
  | m + 1 => (if i + (3 - m) ≤ 4 then nt b (3 - m) * B ^ (4 - i - (3 - m)) else 0) + rowM B b i m
def sumR (B : Nat) (a b : List Nat) : Nat → Nat
  | 0 => 0
  | m + 1 => nt a (3 - m) * rowM B b (3 - m) 4 + sumR B a b m
theorem sumR_le {B : Nat} {a b : List Nat} {m : Nat} : ∀ {n : Nat}, m ≤ n → sumR B a b m ≤ sumR B a b n
  | 0, h => by
    have : m = 0 := by omega
    subst this; exact Nat.le_refl _
  | n + 1, h => by
    by_cases e : m = n + 1
    · subst e; exact Nat.le_refl _
    · have := sumR_le (B := B) (a := a) (b := b) (m := m) (n := n) (by omega)
      show sumR B a b m ≤ nt a (3 - n) * rowM B b (3 - n) 4 + sumR B a b n
      omega
theorem sumR_all {B : Nat} {a b : List Nat} (ha : a.length = 4) (hb : b.length = 4) : sumR B a b 4 * B ^ 2 + (nt a 2 * nt b 3 * B + nt a 3 * nt b 2 * B + nt a 3 * nt b 3) = valB B a * valB B b := by
  match a, b, ha, hb with
  | [a0, a1, a2, a3], [b0, b1, b2, b3], _, _ =>
    simp [sumR, rowM, valB, nt]
    grind
theorem sumR_ok {B : Nat} {a b : List Nat} (ha : a.length = 4) (hb : b.length = 4) (la : ∀ i, nt a i < B) (lb : ∀ i, nt b i < B) : sumR B a b 4 * B ^ 2 ≤ valB B a * valB B b ∧ valB B a * valB B b ≤ sumR B a b 4 * B ^ 2 + 3 * B ^ 3 := by
  have h := sumR_all (B := B) ha hb
  have m : ∀ i j, nt a i * nt b j ≤ B * B := fun i j => Nat.mul_le_mul (Nat.le_of_lt (la i)) (Nat.le_of_lt (lb j))
  have h1 := Nat.mul_le_mul_right B (m 2 3)
  have h2 := Nat.mul_le_mul_right B (m 3 2)
  have h3 := m 3 3
  have hB : 0 < B := Nat.lt_of_le_of_lt (Nat.zero_le _) (la 0)
  have h4 : B * B ≤ B * B * B := Nat.le_mul_of_pos_right _ hB
  have e : B ^ 3 = B * B * B := by grind
  rw [← h, e]
  generalize B * B * B = C at *
  constructor <;> omega
theorem sumR_lt {B : Nat} {a b : List Nat} (ha : a.length = 4) (hb : b.length = 4) (la : ∀ x ∈ a, x < B) (lb : ∀ x ∈ b, x < B) (hB : 0 < B) : sumR B a b 4 < B ^ 6 := by
  have h := sumR_all (B := B) ha hb
  have h1 := valB_lt hB la
  have h2 := valB_lt hB lb
  rw [ha] at h1
  rw [hb] at h2
  have h3 : valB B a * valB B b < B ^ 4 * B ^ 4 := Nat.mul_lt_mul'' h1 h2
  have h4 : B ^ 4 * B ^ 4 = B ^ 6 * B ^ 2 := by rw [← Nat.pow_add, ← Nat.pow_add]
  have h5 : sumR B a b 4 * B ^ 2 < B ^ 6 * B ^ 2 := by rw [← h4]; omega
  exact Nat.lt_of_mul_lt_mul_right h5
theorem row_word {B x y o c : Nat} (hx : x < B) (hy : y < B) (ho : o < B) (hc : c < B) : ∃ hi lo s1 c1 s2 c2 : Nat, x * y / B = hi ∧ x * y % B = lo ∧ (o + lo + 0) % B = s1 ∧ (o + lo + 0) / B = c1 ∧ (s1 + c + 0) % B = s2 ∧ (s1 + c + 0) / B = c2 ∧ c1 ≤ 1 ∧ c2 ≤ 1 ∧ s2 < B ∧ s1 < B ∧ lo < B ∧ hi + c1 + c2 < B ∧ s2 + (hi + c1 + c2) * B = o + x * y + c := by
  have hB : 0 < B := by omega
  have h1 := Nat.div_add_mod (x * y) B
  have h2 := Nat.mod_lt (x * y) hB
  obtain ⟨s1, c1, hs1, hc1, e1, e2, e3⟩ := add_word (x := o) (y := x * y % B) (c := 0) ho h2 (by omega)
  obtain ⟨s2, c2, hs2, hc2, e4, e5, e6⟩ := add_word (x := s1) (y := c) (c := 0) hs1 hc (by omega)
  have e7 : s2 + (x * y / B + c1 + c2) * B = o + x * y + c := by
    rw [Nat.add_mul, Nat.add_mul, Nat.mul_comm (x * y / B) B]
    omega
  refine ⟨_, _, s1, c1, s2, c2, rfl, rfl, e1, e2, e4, e5, hc1, hc2, hs2, hs1, h2, ?_, e7⟩
  have h8 : x * y + x + y + 1 ≤ B * B := by
    have := Nat.mul_le_mul (show x + 1 ≤ B by omega) (show y + 1 ≤ B by omega)
    rw [Nat.succ_mul, Nat.mul_succ] at this
    omega
  have h9 : (x * y / B + c1 + c2) * B < B * B := by
    by_cases hz : x + y + 2 ≤ B + B
    · have : x * y ≤ (B - 1) * (B - 1) := Nat.mul_le_mul (by omega) (by omega)
      have h10 : (B - 1) * (B - 1) + (B - 1) + (B - 1) + 1 = B * B := by
        obtain ⟨k, rfl⟩ : ∃ k, B = k + 1 := ⟨B - 1, by omega⟩
        simp only [Nat.add_sub_cancel]
        grind
      omega
    · omega
  exact Nat.lt_of_mul_lt_mul_right h9
structure RowI (a b : List Nat) (i V0 : Nat) (o : List Nat) (k c : Nat) : Prop where
  wd : Wd 6 o
  cB : c < 18446744073709551616
  c0 : 5 < i + k → c = 0
  eq : valB 18446744073709551616 o + c * 18446744073709551616 ^ (5 - (i + k)) = V0 + nt a i * rowM 18446744073709551616 b i (4 - k)
theorem RowI.start {a b o : List Nat} {i : Nat} (h : Wd 6 o) : RowI a b i (valB 18446744073709551616 o) o 4 0 := ⟨h, by decide, fun _ => rfl, by simp [rowM]⟩
theorem RowI.skip {a b o : List Nat} {i V0 j c : Nat} (h : RowI a b i V0 o (j + 1) c) (hj : j < 4) (hs : 4 < i + j) : RowI a b i V0 o j c := by
  have hc := h.c0 (by omega)
  subst hc
  refine ⟨h.wd, by decide, fun _ => rfl, ?_⟩
  have he := h.eq
  rw [show 4 - j = 4 - (j + 1) + 1 by omega]
  unfold rowM
  rw [show 3 - (4 - (j + 1)) = j by omega, if_neg (by omega)]
  simpa using he
theorem RowI.step {a b o : List Nat} {i V0 j c s c' : Nat} (h : RowI a b i V0 o (j + 1) c) (hj : j < 4) (hs : i + j ≤ 4) (hsB : s < 18446744073709551616) (hc : c' < 18446744073709551616) (e : s + c' * 18446744073709551616 = nt o (i + j + 1) + nt a i * nt b j + c) : RowI a b i V0 (o.set (i + j + 1) s) j c' := by
  refine ⟨h.wd.set (by omega) hsB, hc, fun hh => by omega, ?_⟩
  have he := h.eq
  have hset := valB_set (B := 18446744073709551616) (x := s) (l := o) (p := i + j + 1) (by rw [h.wd.len]; omega)
  rw [h.wd.len] at hset
  rw [show 4 - j = 4 - (j + 1) + 1 by omega]
  unfold rowM
  rw [show 3 - (4 - (j + 1)) = j by omega, if_pos hs]
  rw [show 5 - (i + (j + 1)) = 4 - i - j by omega] at he
  rw [show 6 - (i + j + 1) - 1 = 4 - i - j by omega] at hset
  have hp : 18446744073709551616 ^ (5 - (i + j)) = 18446744073709551616 ^ (4 - i - j) * 18446744073709551616 := by rw [← Nat.pow_succ]; congr 1; omega
  rw [hp]
  generalize 18446744073709551616 ^ (4 - i - j) = P at *
  generalize rowM _ b i (4 - (j + 1)) = R at *
  generalize (18446744073709551616 : Nat) = B at *
  have e2 : (s + c' * B) * P = (nt o (i + j + 1) + nt a i * nt b j + c) * P := by rw [e]
  grind
structure CarI (T : Nat) (o : List Nat) (q c : Nat) : Prop where
  wd : Wd 6 o
  cB : c < 18446744073709551616
  eq : valB 18446744073709551616 o + c * 18446744073709551616 ^ (6 - q) = T
theorem RowI.car {a b o : List Nat} {i V0 c : Nat} (h : RowI a b i V0 o 0 c) (hi : i < 4) : CarI (V0 + nt a i * rowM 18446744073709551616 b i 4) o (i + 1) c := ⟨h.wd, h.cB, by
  have he := h.eq
  rw [show 5 - (i + 0) = 6 - (i + 1) by omega] at he
  exact he⟩
theorem CarI.step {T k c s c' : Nat} {o : List Nat} (h : CarI T o (k + 1) c) (hk : k < 4) (hs : s < 18446744073709551616) (hc : c' ≤ 1) (e : s + c' * 18446744073709551616 = nt o k + c + 0) : CarI T (o.set k s) k c' := by
  refine ⟨h.wd.set (by omega) hs, by omega, ?_⟩
  have he := h.eq
  have hset := valB_set (B := 18446744073709551616) (x := s) (l := o) (p := k) (by rw [h.wd.len]; omega)
  rw [h.wd.len] at hset
  rw [show 6 - (k + 1) = 6 - k - 1 by omega] at he
  have hp : 18446744073709551616 ^ (6 - k) = 18446744073709551616 ^ (6 - k - 1) * 18446744073709551616 := by rw [← Nat.pow_succ]; congr 1; omega
  rw [hp]
  generalize 18446744073709551616 ^ (6 - k - 1) = P at *
  generalize (18446744073709551616 : Nat) = B at *
  have e2 : (s + c' * B) * P = (nt o k + c + 0) * P := by rw [e]
  grind
theorem CarI.done {T q c : Nat} {o : List Nat} (h : CarI T o q c) (hT : T < 18446744073709551616 ^ 6) (hq : q = 0 ∨ c = 0) : valB 18446744073709551616 o = T := by
  have he := h.eq
  rcases hq with rfl | rfl
  · have : c = 0 := by
      rcases Nat.eq_zero_or_pos c with h0 | h0
      · exact h0
      · have h1 : 1 * 18446744073709551616 ^ (6 - 0) ≤ c * 18446744073709551616 ^ (6 - 0) := Nat.mul_le_mul_right _ h0
        rw [show 6 - 0 = 6 by rfl] at *
        omega
    subst this
    simpa using he
  · simpa using he
theorem take4 {o : List Nat} (h : Wd 6 o) : Wd 4 (o.take 4) ∧ val4 (o.take 4) = valB 18446744073709551616 o / 18446744073709551616 ^ 2 ∧ ∀ i, i < 4 → nt (o.take 4) i = nt o i := by
  have hl := h.len
  match o, hl with
  | [x0, x1, x2, x3, x4, x5], _ =>
    have q : ∀ i, i < 4 → nt [x0, x1, x2, x3] i = nt [x0, x1, x2, x3, x4, x5] i := fun i hi => by
      match i, hi with
      | 0, _ => rfl
      | 1, _ => rfl
      | 2, _ => rfl
      | 3, _ => rfl
    refine ⟨⟨rfl, fun i => ?_⟩, ?_, q⟩
    · by_cases hi : i < 4
      · rw [show List.take 4 [x0, x1, x2, x3, x4, x5] = [x0, x1, x2, x3] from rfl, q i hi]; exact h.lt i
      · unfold nt
        simp [List.getD, show ¬ i < 4 from hi]
    · have h4 := h.lt 4
      have h5 := h.lt 5
      change x4 < _ at h4
      change x5 < _ at h5
      show valB _ [x0, x1, x2, x3] = _
      generalize hB : (18446744073709551616 : Nat) = B at *
      have e : valB B [x0, x1, x2, x3, x4, x5] = (x4 * B + x5) + B ^ 2 * valB B [x0, x1, x2, x3] := by
        simp [valB]
        grind
      have hlt : x4 * B + x5 < B ^ 2 := by
        have : (x4 + 1) * B ≤ B * B := Nat.mul_le_mul_right _ h4
        rw [Nat.succ_mul] at this
        rw [show B ^ 2 = B * B by grind]
        omega
      rw [e, Nat.add_mul_div_left _ _ (by omega), Nat.div_eq_of_lt hlt, Nat.zero_add]
theorem mul_done {a b o : List Nat} (ha : Wd 4 a) (hb : Wd 4 b) (ho : Wd 6 o) (h : valB 18446744073709551616 o = sumR 18446744073709551616 a b 4) : val4 (o.take 4) * 18446744073709551616 ^ 4 ≤ val4 a * val4 b ∧ val4 a * val4 b ≤ (val4 (o.take 4) + 2) * 18446744073709551616 ^ 4 := by
  obtain ⟨h1, h2⟩ := sumR_ok (B := 18446744073709551616) ha.len hb.len ha.lt hb.lt
  rw [(take4 ho).2.1, h]
  unfold val4
  have h3 := Nat.div_add_mod (sumR 18446744073709551616 a b 4) (18446744073709551616 ^ 2)
  have h4 := Nat.mod_lt (sumR 18446744073709551616 a b 4) (show 0 < 18446744073709551616 ^ 2 by decide)
  generalize sumR 18446744073709551616 a b 4 / 18446744073709551616 ^ 2 = Q at *
  generalize sumR 18446744073709551616 a b 4 % 18446744073709551616 ^ 2 = M at *
  generalize valB 18446744073709551616 a * valB 18446744073709551616 b = N at *
  rw [← h3] at h1 h2
  have hB : 3 ≤ (18446744073709551616 : Nat) := by decide
  generalize (18446744073709551616 : Nat) = B at *
  have e4 : B ^ 4 = B ^ 2 * B ^ 2 := by rw [← Nat.pow_add]
  have e3 : 3 * B ^ 3 ≤ B ^ 4 := by
    rw [show B ^ 4 = B * B ^ 3 by rw [← Nat.pow_succ']]
    exact Nat.mul_le_mul_right _ hB
  have h5 : M * B ^ 2 ≤ B ^ 4 := by rw [e4]; exact Nat.mul_le_mul_right _ (Nat.le_of_lt h4)
  have e5 : (B ^ 2 * Q + M) * B ^ 2 = Q * B ^ 4 + M * B ^ 2 := by rw [e4]; grind
  rw [e5] at h1 h2
  rw [Nat.add_mul]
  generalize Q * B ^ 4 = X at *
  generalize M * B ^ 2 = Y at *
  generalize B ^ 3 = Z at *
  generalize B ^ 4 = U at *
  constructor <;> omega
end Go.Proofs.YtkhhdpndcidmgaaGreat
