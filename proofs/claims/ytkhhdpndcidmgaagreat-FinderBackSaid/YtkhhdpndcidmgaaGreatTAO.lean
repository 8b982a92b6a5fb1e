/- Contracts and plain laws, several texts in one: Qn2; Qn3; Qn4; Qn0 -/
import Derived.Test.YtkhhdpndcidmgaaGreatProg
import Derived.WalkKit
import Derived.WalkSpells
import Derived.WalkLawsBesides
import Derived.Lib.Hide
import Derived.BigQuiet
import Derived.ChangeKeysEq
import Derived.Test.YtkhhdpndcidmgaaGreatTAE
import Derived.Test.YtkhhdpndcidmgaaGreatTAF
import Derived.Test.YtkhhdpndcidmgaaGreatTAI
import Derived.Test.YtkhhdpndcidmgaaGreatTAM
import Derived.Test.YtkhhdpndcidmgaaGreatTAN
/- Numbers of an integral part and three words of the fraction: multiples and comparison. -/
namespace Go.Proofs.YtkhhdpndcidmgaaGreat
set_option maxHeartbeats 4000000
set_option maxRecDepth 100000
open Go.RowKit

theorem qn_times (a : List Nat) (n : Nat) (ha : Wd 4 a) (hn : n < 18446744073709551616) (w : World) :
    Calls Tryz.prog 140 #[nuV a, .int .u64 (n : Int)] w fun e w' => ∃ r d, e = .returned (nuV r) ∧ w' = bw w d ∧ Wd 4 r ∧ ∃ t, val4 r + t * 18446744073709551616 ^ 4 = n * val4 a := by
  refine lay_start ?_
  unfold nuV
  go_enter Tryz.func140, Tryz.ntmps140
  go_wp2_with fail
  rw [← nuA_four ha.len]
  go_loopw [5, 6, 7, 8, 9] (fun v4 v5 _ _ _ wr => ∃ (k t : Nat) (r : List Nat) (d : Ext), k ≤ 4 ∧ v4 = .int .u64 (t : Int) ∧ v5 = .int .i64 ((k : Int) - 1) ∧ wr = lay w [.inr d, .inl (.cells #[.int .u64 0, .int .u64 0, .int .u64 0, .int .u64 0] 166 (0, 0)), .inl (.cells (nuA r) 166 (0, 0))] ∧ MulI a n r k t) (fun _ v5 _ _ _ _ => (intOf v5 + 1).toNat)
  case atStart => exact ⟨4, 0, a, noExt _, Nat.le_refl _, rfl, rfl, (bw_noExt _).symm, MulI.start ha⟩
  case round =>
    obtain ⟨k, t, r, d, hk, rfl, rfl, rfl, hS⟩ := hrel
    have HS := Lib.hid hS
    rcases k with _ | i
    · rw [show ((0 : Nat) : Int) - 1 = -1 from rfl]
      have g0 := nuA_get (l := r) (i := 0) (by rw [hS.wd.len]; decide)
      have g1 := nuA_get (l := r) (i := 1) (by rw [hS.wd.len]; decide)
      have g2 := nuA_get (l := r) (i := 2) (by rw [hS.wd.len]; decide)
      have g3 := nuA_get (l := r) (i := 3) (by rw [hS.wd.len]; decide)
      clear hS
      go_wp2_with fail
      obtain ⟨dz, ez⟩ := lay_all w [.inr d, .inl (.cells #[.int .u64 (nt r 0 : Int), .int .u64 (nt r 1 : Int), .int .u64 (nt r 2 : Int), .int .u64 (nt r 3 : Int)] 166 (0, 0)), .inl (.cells (nuA r) 166 (0, 0))]
      exact bodyPost_ret (v := .agg #[.int .u64 (nt r 0 : Int), .int .u64 (nt r 1 : Int), .int .u64 (nt r 2 : Int), .int .u64 (nt r 3 : Int)]) (by simp [results, Tryz.results140, go_sem]) rfl ⟨r, dz, rfl, ez, HS.out.wd, t, HS.out.done⟩
    · rw [show ((i + 1 : Nat) : Int) - 1 = (i : Int) by omega]
      have hi : i < 4 := by omega
      have x0 : (0 : Int) ≤ (i : Int) := by omega
      have x1 : (i : Int) < 4 := by omega
      have x2 : (i : Int).toNat = i := by omega
      obtain ⟨X, hX⟩ : ∃ X, nt r i = X := ⟨_, rfl⟩
      have g0 := nuA_get (l := r) (i := i) (by rw [hS.wd.len]; exact hi)
      rw [hX] at g0
      have hXl : X < 18446744073709551616 := by rw [← hX]; exact hS.wd.lt i
      obtain ⟨HI, LO, SS, CC, hLO, hSS, hCC, hHC, e1, e2, e3, e4, e5, e6⟩ := mul_word (x := X) (n := n) (t := t) hXl hS.tn hn
      have HM := Lib.hid (fun W => Tryz.bits_Mul64 X n hXl hn W)
      rw [e1, e2] at HM
      have hcall : ∀ W, (callFunc 180 #[.int .u64 (LO : Int), .int .u64 (t : Int), .int .u64 0]).run Tryz.prog W = .ok (.value (.tuple #[.int .u64 (SS : Int), .int .u64 (CC : Int)])) W := fun W => by
        have := add64 LO t 0 (by omega) W
        rw [e3, e4] at this
        exact this
      have kHC : IntKind.u64.wrap ((HI : Int) + (CC : Int)) = (HI : Int) + (CC : Int) := IntWalk.u64_in _ (by omega)
      have HN := Lib.hid (hS.step ha hi hSS e6 (by rw [hX]; exact e5))
      clear hS e1 e2 e3 e4 e5 e6 hX hXl
      go_wp2_with (go_at_call 169; refine (HM.out _).mono ?_; rintro e w' ⟨rfl, hw⟩; rw [hw])
      rw [nuA_set]
      go_roundw
      case rel => exact ⟨i, HI + CC, r.set i SS, d, by omega, by first | rfl | exact congrArg (Value.int .u64) (by omega), rfl, rfl, HN.out⟩
      case measure => simp [intOf]
theorem lex_lt {B : Nat} {a b : List Nat} {n i : Nat} (ha : a.length = n) (hb : b.length = n) (la : ∀ x ∈ a, x < B) (lb : ∀ x ∈ b, x < B) (hi : i < n) (hB : 0 < B) (h : ∀ j, j < i → nt a j = nt b j) (hne : nt a i ≠ nt b i) : (valB B a < valB B b ↔ nt a i < nt b i) := by
  have key : ∀ k, k ≤ i → valB B a + valB B (b.drop k) = valB B b + valB B (a.drop k) := by
    intro k
    induction k with
    | zero => intro _; rw [List.drop_zero, List.drop_zero]; omega
    | succ k ih =>
      intro hk
      have := ih (by omega)
      rw [valB_drop (l := b) (by omega), valB_drop (l := a) (by omega), h k (by omega), ha, hb] at this
      omega
  have h1 := key i (Nat.le_refl i)
  rw [valB_drop (l := b) (by omega), valB_drop (l := a) (by omega), ha, hb] at h1
  have ua := valB_lt hB (l := a.drop (i + 1)) (fun x hx => la x (List.mem_of_mem_drop hx))
  have ub := valB_lt hB (l := b.drop (i + 1)) (fun x hx => lb x (List.mem_of_mem_drop hx))
  rw [List.length_drop, ha] at ua
  rw [List.length_drop, hb] at ub
  have ep : n - (i + 1) = n - i - 1 := by omega
  rw [ep] at ua ub
  generalize B ^ (n - i - 1) = P at *
  generalize valB B (a.drop (i + 1)) = u at *
  generalize valB B (b.drop (i + 1)) = v at *
  generalize valB B a = A at *
  generalize valB B b = C at *
  rcases Nat.lt_or_gt_of_ne hne with g | g
  · have := Nat.mul_le_mul_right P (show nt a i + 1 ≤ nt b i from g)
    rw [Nat.add_mul] at this
    constructor <;> intro _ <;> omega
  · have := Nat.mul_le_mul_right P (show nt b i + 1 ≤ nt a i from g)
    rw [Nat.add_mul] at this
    constructor <;> intro _ <;> omega
theorem lex_eq {B : Nat} {a b : List Nat} (ha : a.length = 4) (hb : b.length = 4) (h : ∀ j, j < 4 → nt a j = nt b j) : valB B a = valB B b := by
  have : a = b := by
    refine List.ext_getElem (by omega) fun i h1 h2 => ?_
    have := h i (by omega)
    unfold nt at this
    simpa [List.getD, h1, h2] using this
  rw [this]
theorem qn_less (a b : List Nat) (ha : Wd 4 a) (hb : Wd 4 b) (w : World) :
    Calls Tryz.prog 141 #[nuV a, nuV b] w fun e w' => e = .returned (.bool (decide (val4 a < val4 b))) ∧ ∃ d, w' = bw w d := by
  refine lay_start ?_
  unfold nuV
  go_enter Tryz.func141, Tryz.ntmps141
  go_wp2_with fail
  rw [← nuA_four ha.len, ← nuA_four hb.len]
  go_loopw [6] (fun v6 wr => ∃ (k : Nat) (d : Ext), k ≤ 4 ∧ v6 = .int .i64 (k : Int) ∧ wr = lay w [.inr d, .inl (.cells (nuA b) 166 (0, 0)), .inl (.cells (nuA a) 166 (0, 0))] ∧ ∀ j, j < k → nt a j = nt b j) (fun v6 _ => 4 - (intOf v6).toNat)
  case atStart => exact ⟨0, noExt _, by omega, rfl, (bw_noExt _).symm, fun j hj => by omega⟩
  case round =>
    obtain ⟨k, d, hk, rfl, rfl, hS⟩ := hrel
    have HS := Lib.hid hS
    by_cases hk4 : k = 4
    · subst hk4
      have hv := lex_eq (B := 18446744073709551616) ha.len hb.len hS
      have hd : decide (val4 a < val4 b) = false := decide_eq_false (by unfold val4; omega)
      have HD := Lib.hid hd
      clear hS hv hd
      go_wp2_with fail
      go_ret
      exact ⟨by rw [HD.out]; rfl, lay_ex _ _⟩
    · have hi : k < 4 := by omega
      have x0 : (0 : Int) ≤ (k : Int) := by omega
      have x1 : (k : Int) < 4 := by omega
      have x2 : (k : Int).toNat = k := by omega
      obtain ⟨X, hX⟩ : ∃ X, nt a k = X := ⟨_, rfl⟩
      obtain ⟨Y, hY⟩ : ∃ Y, nt b k = Y := ⟨_, rfl⟩
      have g0 := nuA_get (l := a) (i := k) (by rw [ha.len]; exact hi)
      have g1 := nuA_get (l := b) (i := k) (by rw [hb.len]; exact hi)
      rw [hX] at g0
      rw [hY] at g1
      by_cases hne : X = Y
      · subst hne
        have e1 : ((X : Int) != (X : Int)) = false := by simp
        have HN : Hid (∀ j, j < k + 1 → nt a j = nt b j) := Lib.hid fun j hj => by
          by_cases h : j = k
          · subst h; rw [hX, hY]
          · exact HS.out j (by omega)
        clear hS hX hY
        go_wp2_with fail
        refine region_bw (by kernel_rfl) (by kernel_rfl) ?_
        repeat (go_big_quiet_step ((first | fail)))
        refine wpQuiet_nil ?_
        rintro w' ⟨dq, rfl⟩
        rw [lay_bw]
        go_wp2_with fail
        obtain ⟨d3, e3⟩ := lay_fold w [.inr dq, .inr d] [.inl (.cells (nuA b) 166 (0, 0)), .inl (.cells (nuA a) 166 (0, 0))]
        change lay w [.inr dq, .inr d, .inl (.cells (nuA b) 166 (0, 0)), .inl (.cells (nuA a) 166 (0, 0))] = _ at e3
        rw [e3]
        go_roundw
        case rel => exact ⟨k + 1, d3, by omega, by first | rfl | exact congrArg (Value.int .i64) (by omega), rfl, HN.out⟩
        case measure => simp [intOf]; omega
      · have e1 : ((X : Int) != (Y : Int)) = true := by simp; omega
        have hl := lex_lt (B := 18446744073709551616) ha.len hb.len ha.mem hb.mem hi (by decide) hS (by rw [hX, hY]; exact hne)
        rw [hX, hY] at hl
        have HD : Hid (decide (X < Y) = decide (val4 a < val4 b)) := Lib.hid (decide_eq_decide.2 (by unfold val4; rw [hl]))
        clear hS hX hY hl
        go_wp2_with fail
        refine region_bw (by kernel_rfl) (by kernel_rfl) ?_
        repeat (go_big_quiet_step ((first | fail)))
        refine wpQuiet_nil ?_
        rintro w' ⟨dq, rfl⟩
        rw [lay_bw]
        go_wp2_with fail
        refine region_bw (by kernel_rfl) (by kernel_rfl) ?_
        repeat (go_big_quiet_step ((first | fail)))
        refine wpQuiet_nil ?_
        rintro w' ⟨dr, rfl⟩
        rw [lay_bw]
        go_wp2_with fail
        go_ret
        exact ⟨by rw [← HD.out]; rfl, lay_ex _ _⟩
end Go.Proofs.YtkhhdpndcidmgaaGreat
/- Numbers of an integral part and three words of the fraction: products. -/
namespace Go.Proofs.YtkhhdpndcidmgaaGreat
open Go.RowKit

structure RowF (a b : List Nat) (i V0 : Nat) (o : List Nat) (j c : Nat) : Prop where
  wd : Wd 8 o
  cB : c < 18446744073709551616
  zero : ∀ q, q ≤ i → nt o q = 0
  eq : valB 18446744073709551616 o + c * 18446744073709551616 ^ (7 - (i + j)) = V0 + nt a i * valB 18446744073709551616 (b.drop j) * 18446744073709551616 ^ (3 - i)
theorem RowF.start {a b o : List Nat} {i : Nat} (hb : Wd 4 b) (h : Wd 8 o) (hz : ∀ q, q ≤ i → nt o q = 0) : RowF a b i (valB 18446744073709551616 o) o 4 0 := ⟨h, by decide, hz, by
  rw [List.drop_eq_nil_of_le (by rw [hb.len]; exact Nat.le_refl 4)]
  simp [valB]⟩
theorem row_eq {B V V' V0 ai bj W R Q P s op c c' : Nat} (h : V + c * P = V0 + ai * W * Q) (hs : V' + op * P = V + s * P) (e : s + c' * B = op + ai * bj + c) (hP : R * Q = P) : V' + c' * (P * B) = V0 + ai * (bj * R + W) * Q := by
  have e2 : (s + c' * B) * P = (op + ai * bj + c) * P := by rw [e]
  subst hP
  grind
theorem RowF.step {a b o : List Nat} {i V0 j c s c' : Nat} (h : RowF a b i V0 o (j + 1) c) (hb : Wd 4 b) (hi : i < 4) (hj : j < 4) (hsB : s < 18446744073709551616) (hc : c' < 18446744073709551616) (e : s + c' * 18446744073709551616 = nt o (i + j + 1) + nt a i * nt b j + c) : RowF a b i V0 (o.set (i + j + 1) s) j c' := by
  refine ⟨h.wd.set (by omega) hsB, hc, fun q hq => ?_, ?_⟩
  · rw [nt_set (by rw [h.wd.len]; omega), if_neg (by omega)]
    exact h.zero q hq
  · have hv := valB_set (B := 18446744073709551616) (x := s) (l := o) (p := i + j + 1) (by rw [h.wd.len]; omega)
    have he := h.eq
    rw [h.wd.len, show 8 - (i + j + 1) - 1 = 7 - (i + (j + 1)) by omega] at hv
    rw [valB_drop (l := b) (by rw [hb.len]; exact hj), hb.len, show 7 - (i + j) = 7 - (i + (j + 1)) + 1 by omega, Nat.pow_succ]
    exact row_eq he hv e (by rw [← Nat.pow_add]; congr 1; omega)
theorem RowF.done {a b o : List Nat} {i V0 c : Nat} (h : RowF a b i V0 o 0 c) (hi : i < 4) : Wd 8 (o.set i c) ∧ (∀ q, q < i → nt (o.set i c) q = 0) ∧ valB 18446744073709551616 (o.set i c) = V0 + nt a i * val4 b * 18446744073709551616 ^ (3 - i) := by
  refine ⟨h.wd.set (by omega) h.cB, fun q hq => ?_, ?_⟩
  · rw [nt_set (by rw [h.wd.len]; omega), if_neg (by omega)]
    exact h.zero q (by omega)
  · have hv := valB_set (B := 18446744073709551616) (x := c) (l := o) (p := i) (by rw [h.wd.len]; omega)
    have he := h.eq
    rw [h.wd.len, h.zero i (Nat.le_refl i), show 8 - i - 1 = 7 - (i + 0) by omega] at hv
    rw [List.drop_zero] at he
    unfold val4
    omega
theorem zero8 : Wd 8 [0, 0, 0, 0, 0, 0, 0, 0] ∧ valB 18446744073709551616 [0, 0, 0, 0, 0, 0, 0, 0] = 0 := ⟨⟨rfl, fun i => by
  unfold nt
  rcases i with _ | _ | _ | _ | _ | _ | _ | _ | i <;> simp [List.getD]⟩, by simp [valB]⟩
theorem zero8_nt (q : Nat) : nt [0, 0, 0, 0, 0, 0, 0, 0] q = 0 := by
  unfold nt
  rcases q with _ | _ | _ | _ | _ | _ | _ | _ | q <;> simp [List.getD]
theorem zero8_cells : (#[.int .u64 0, .int .u64 0, .int .u64 0, .int .u64 0, .int .u64 0, .int .u64 0, .int .u64 0, .int .u64 0] : Array Value) = nuA [0, 0, 0, 0, 0, 0, 0, 0] := rfl
theorem mid_eq {B o0 o1 o2 o3 o4 o5 o6 o7 : Nat} (h5 : o5 < B) (h6 : o6 < B) (h7 : o7 < B) (hlt : o0 * B ^ 7 + (o1 * B ^ 6 + (o2 * B ^ 5 + (o3 * B ^ 4 + (o4 * B ^ 3 + (o5 * B ^ 2 + (o6 * B + o7)))))) < B ^ 7) : o1 * B ^ 3 + (o2 * B ^ 2 + (o3 * B + o4)) = (o0 * B ^ 7 + (o1 * B ^ 6 + (o2 * B ^ 5 + (o3 * B ^ 4 + (o4 * B ^ 3 + (o5 * B ^ 2 + (o6 * B + o7))))))) / B ^ 3 := by
  have hB : 0 < B := by omega
  have h0 : o0 = 0 := by
    rcases Nat.eq_zero_or_pos o0 with h | h
    · exact h
    · have := Nat.mul_le_mul_right (B ^ 7) h
      omega
  subst h0
  have hb : o5 * B ^ 2 + (o6 * B + o7) < B ^ 3 := by
    have h1 := Nat.mul_le_mul_right (B ^ 2) (show o5 + 1 ≤ B from h5)
    have h2 := Nat.mul_le_mul_right B (show o6 + 1 ≤ B from h6)
    have e3 : B ^ 3 = B * B ^ 2 := by rw [Nat.pow_succ, Nat.mul_comm]
    have e2 : B ^ 2 = B * B := by rw [Nat.pow_succ, Nat.pow_one]
    rw [e3]
    rw [Nat.add_mul] at h1 h2
    rw [e2] at h1 ⊢
    omega
  have e : 0 * B ^ 7 + (o1 * B ^ 6 + (o2 * B ^ 5 + (o3 * B ^ 4 + (o4 * B ^ 3 + (o5 * B ^ 2 + (o6 * B + o7)))))) = (o5 * B ^ 2 + (o6 * B + o7)) + (o1 * B ^ 3 + (o2 * B ^ 2 + (o3 * B + o4))) * B ^ 3 := by grind
  rw [e, Nat.add_mul_div_right _ _ (Nat.pow_pos hB), Nat.div_eq_of_lt hb, Nat.zero_add]
theorem mid4 {o : List Nat} (h : Wd 8 o) (hlt : valB 18446744073709551616 o < 18446744073709551616 ^ 7) : Wd 4 ((o.drop 1).take 4) ∧ val4 ((o.drop 1).take 4) = valB 18446744073709551616 o / 18446744073709551616 ^ 3 ∧ ∀ i, i < 4 → nt ((o.drop 1).take 4) i = nt o (i + 1) := by
  obtain ⟨hl, hw⟩ := h
  match o, hl with
  | [o0, o1, o2, o3, o4, o5, o6, o7], _ =>
    have w1 : o1 < 18446744073709551616 := hw 1
    have w2 : o2 < 18446744073709551616 := hw 2
    have w3 : o3 < 18446744073709551616 := hw 3
    have w4 : o4 < 18446744073709551616 := hw 4
    have w5 : o5 < 18446744073709551616 := hw 5
    have w6 : o6 < 18446744073709551616 := hw 6
    have w7 : o7 < 18446744073709551616 := hw 7
    refine ⟨⟨rfl, fun i => ?_⟩, ?_, fun i hi => ?_⟩
    · show nt [o1, o2, o3, o4] i < _
      unfold nt
      rcases i with _ | _ | _ | _ | i
      · exact w1
      · exact w2
      · exact w3
      · exact w4
      · simp [List.getD]
    · show valB 18446744073709551616 [o1, o2, o3, o4] = _
      simp only [valB, List.length_cons, List.length_nil, Nat.zero_add, Nat.reduceAdd, Nat.pow_zero, Nat.mul_one, Nat.pow_one, Nat.add_zero] at hlt ⊢
      generalize 18446744073709551616 = B at *
      exact mid_eq w5 w6 w7 hlt
    · show nt [o1, o2, o3, o4] i = nt [o0, o1, o2, o3, o4, o5, o6, o7] (i + 1)
      rcases i with _ | _ | _ | _ | i
      · rfl
      · rfl
      · rfl
      · rfl
      · omega
end Go.Proofs.YtkhhdpndcidmgaaGreat
/- Numbers of an integral part and three words of the fraction: the walk of the product. -/
namespace Go.Proofs.YtkhhdpndcidmgaaGreat
open Go.RowKit

set_option maxHeartbeats 4000000 in
set_option maxRecDepth 100000 in
theorem qn_mul (a b : List Nat) (ha : Wd 4 a) (hb : Wd 4 b) (hab : val4 a * val4 b < 18446744073709551616 ^ 7) (w : World) :
    Calls Tryz.prog 178 #[nuV a, nuV b] w fun e w' => ∃ r d, e = .returned (nuV r) ∧ w' = bw w d ∧ Wd 4 r ∧ val4 r = val4 a * val4 b / 18446744073709551616 ^ 3 := by
  refine lay_start ?_
  have HLT := Lib.hid hab
  clear hab
  unfold nuV
  go_enter Tryz.func178, Tryz.ntmps178
  go_wp2_with fail
  rw [← nuA_four ha.len, ← nuA_four hb.len, zero8_cells]
  go_loopw [6, 7, 8, 9, 10, 11] (fun v6 _ _ _ _ _ wr => ∃ (k : Nat) (o : List Nat) (d : Ext), k ≤ 4 ∧ v6 = .int .i64 ((k : Int) - 1) ∧ wr = lay w [.inr d, .inl (.cells (nuA o) 216 (0, 0)), .inl (.cells #[.int .u64 0, .int .u64 0, .int .u64 0, .int .u64 0] 166 (0, 0)), .inl (.cells (nuA b) 166 (0, 0)), .inl (.cells (nuA a) 166 (0, 0))] ∧ Wd 8 o ∧ (∀ q, q < k → nt o q = 0) ∧ valB 18446744073709551616 o = valB 18446744073709551616 (a.drop k) * val4 b) (fun v6 _ _ _ _ _ _ => (intOf v6 + 1).toNat)
  case atStart => exact ⟨4, _, noExt _, Nat.le_refl _, rfl, (bw_noExt _).symm, zero8.1, fun q _ => zero8_nt q, by rw [zero8.2, List.drop_eq_nil_of_le (by rw [ha.len]; exact Nat.le_refl 4)]; simp [valB]⟩
  case round =>
    obtain ⟨k, o, d, hk, rfl, rfl, ho, hz, hV⟩ := hrel
    have HO := Lib.hid (And.intro ho (And.intro hz hV))
    clear ho hz hV
    rcases k with _ | i
    · rw [show ((0 : Nat) : Int) - 1 = -1 from rfl]
      have hT := mid4 HO.out.1 (by rw [HO.out.2.2, List.drop_zero]; exact HLT.out)
      have hv : val4 ((o.drop 1).take 4) = val4 a * val4 b / 18446744073709551616 ^ 3 := by
        rw [hT.2.1, HO.out.2.2, List.drop_zero]; rfl
      have g0 := nuA_get (l := o) (i := 1) (by rw [HO.out.1.len]; decide)
      have g1 := nuA_get (l := o) (i := 2) (by rw [HO.out.1.len]; decide)
      have g2 := nuA_get (l := o) (i := 3) (by rw [HO.out.1.len]; decide)
      have g3 := nuA_get (l := o) (i := 4) (by rw [HO.out.1.len]; decide)
      rw [← hT.2.2 0 (by decide)] at g0
      rw [← hT.2.2 1 (by decide)] at g1
      rw [← hT.2.2 2 (by decide)] at g2
      rw [← hT.2.2 3 (by decide)] at g3
      have HE := Lib.hid (And.intro hT.1 hv)
      have hat : ∀ W, (Instr.arrayAt 166 (.slice (some ⟨posn w [1, 1, 1], 1, none⟩) 4 7)).run Tryz.prog W = .ok (.pointer (some ⟨posn w [1, 1, 1], 1, none⟩)) W := fun W => run_arrayAt W 166 _ 4 _ 4 7 Tryz.underlying166 (by decide)
      clear hT hv
      generalize (o.drop 1).take 4 = r at *
      go_wp2_with fail
      obtain ⟨dz, ez⟩ := lay_all w [.inr d, .inl (.cells (nuA o) 216 (0, 0)), .inl (.cells #[.int .u64 (nt r 0 : Int), .int .u64 (nt r 1 : Int), .int .u64 (nt r 2 : Int), .int .u64 (nt r 3 : Int)] 166 (0, 0)), .inl (.cells (nuA b) 166 (0, 0)), .inl (.cells (nuA a) 166 (0, 0))]
      exact bodyPost_ret (v := .agg #[.int .u64 (nt r 0 : Int), .int .u64 (nt r 1 : Int), .int .u64 (nt r 2 : Int), .int .u64 (nt r 3 : Int)]) (by simp [results, Tryz.results178, go_sem]) rfl ⟨r, dz, rfl, ez, HE.out.1, HE.out.2⟩
    · rw [show ((i + 1 : Nat) : Int) - 1 = (i : Int) by omega]
      have hi : i < 4 := by omega
      have x0 : (0 : Int) ≤ (i : Int) := by omega
      have x1 : (i : Int) < 4 := by omega
      have x3 : (i : Int) < 8 := by omega
      have x2 : (i : Int).toNat = i := by omega
      go_wp2_with fail
      go_loopw [7, 8, 9, 10, 11] (fun v7 v8 _ _ _ wr => ∃ (k c : Nat) (o : List Nat) (d : Ext), k ≤ 4 ∧ v7 = .int .u64 (c : Int) ∧ v8 = .int .i64 ((k : Int) - 1) ∧ wr = lay w [.inr d, .inl (.cells (nuA o) 216 (0, 0)), .inl (.cells #[.int .u64 0, .int .u64 0, .int .u64 0, .int .u64 0] 166 (0, 0)), .inl (.cells (nuA b) 166 (0, 0)), .inl (.cells (nuA a) 166 (0, 0))] ∧ RowF a b i (valB 18446744073709551616 (a.drop (i + 1)) * val4 b) o k c) (fun _ v8 _ _ _ _ => (intOf v8 + 1).toNat)
      case atStart =>
        have hs := RowF.start (a := a) (b := b) (i := i) hb HO.out.1 (fun q hq => HO.out.2.1 q (by omega))
        rw [HO.out.2.2] at hs
        exact ⟨4, 0, o, d, Nat.le_refl _, rfl, rfl, rfl, hs⟩
      case round =>
        obtain ⟨k, c, o, dd, hk, rfl, rfl, rfl, hR⟩ := hrel
        have HR := Lib.hid hR
        clear hR HO
        rcases k with _ | j
        · rw [show ((0 : Nat) : Int) - 1 = -1 from rfl]
          have hD := HR.out.done hi
          have e1 : valB 18446744073709551616 (a.drop (i + 1)) * val4 b + nt a i * val4 b * 18446744073709551616 ^ (3 - i) = valB 18446744073709551616 (a.drop i) * val4 b := by
            rw [valB_drop (l := a) (i := i) (by rw [ha.len]; exact hi), ha.len, show 4 - i - 1 = 3 - i by omega]
            generalize 18446744073709551616 ^ (3 - i) = P
            grind
          rw [e1] at hD
          have HD := Lib.hid hD
          have g0 := nuA_get (l := o) (i := i) (by rw [HR.out.wd.len]; omega)
          rw [HR.out.zero i (Nat.le_refl i)] at g0
          have hc : c < 18446744073709551616 := HR.out.cB
          have kc : IntKind.u64.wrap (c : Int) = (c : Int) := IntWalk.u64_in _ (by omega)
          clear HR hD e1
          go_wp2_with fail
          rw [nuA_set]
          exact ⟨⟨i, o.set i c, dd, by omega, rfl, rfl, HD.out⟩, by simp [intOf]⟩
        · rw [show ((j + 1 : Nat) : Int) - 1 = (j : Int) by omega]
          have hj : j < 4 := by omega
          have y0 : (0 : Int) ≤ (j : Int) := by omega
          have y1 : (j : Int) < 4 := by omega
          have y2 : (j : Int).toNat = j := by omega
          have w1 : IntKind.i64.wrap ((i : Int) + (j : Int)) = (i : Int) + (j : Int) := IntWalk.i64_in _ (by omega)
          have w2 : IntKind.i64.wrap ((i : Int) + (j : Int) + 1) = (i : Int) + (j : Int) + 1 := IntWalk.i64_in _ (by omega)
          have w4 : (0 : Int) ≤ (i : Int) + (j : Int) + 1 := by omega
          have w5 : (i : Int) + (j : Int) + 1 < 8 := by omega
          have w6 : ((i : Int) + (j : Int) + 1).toNat = i + j + 1 := by omega
          obtain ⟨X, hX⟩ : ∃ X, nt a i = X := ⟨_, rfl⟩
          obtain ⟨Y, hY⟩ : ∃ Y, nt b j = Y := ⟨_, rfl⟩
          obtain ⟨O, hO⟩ : ∃ O, nt o (i + j + 1) = O := ⟨_, rfl⟩
          have g0 := nuA_get (l := a) (i := i) (by rw [ha.len]; exact hi)
          have g1 := nuA_get (l := b) (i := j) (by rw [hb.len]; exact hj)
          have g2 := nuA_get (l := o) (i := i + j + 1) (by rw [HR.out.wd.len]; omega)
          rw [hX] at g0
          rw [hY] at g1
          rw [hO] at g2
          have hXl : X < 18446744073709551616 := by rw [← hX]; exact ha.lt i
          have hYl : Y < 18446744073709551616 := by rw [← hY]; exact hb.lt j
          obtain ⟨HI, LO, S1, C1, S2, C2, e1, e2, e3, e4, e5, e6, hC1, hC2, hS2, hS1, hLO, hH, e7⟩ := row_word (x := X) (y := Y) (o := O) (c := c) (B := 18446744073709551616) hXl hYl (by rw [← hO]; exact HR.out.wd.lt _) HR.out.cB
          have HM := Lib.hid (one_call (fun W => Tryz.bits_Mul64 X Y hXl hYl W))
          rw [e1, e2] at HM
          have hcall1 : ∀ W, (callFunc 180 #[.int .u64 (LO : Int), .int .u64 (O : Int), .int .u64 0]).run Tryz.prog W = .ok (.value (.tuple #[.int .u64 (S1 : Int), .int .u64 (C1 : Int)])) W := fun W => by
            have := add64 LO O 0 (by omega) W
            rw [Nat.add_comm LO O, e3, e4] at this
            exact this
          have hcall2 : ∀ W, (callFunc 180 #[.int .u64 (S1 : Int), .int .u64 (c : Int), .int .u64 0]).run Tryz.prog W = .ok (.value (.tuple #[.int .u64 (S2 : Int), .int .u64 (C2 : Int)])) W := fun W => by
            have := add64 S1 c 0 (by omega) W
            rw [e5, e6] at this
            exact this
          have kH1 : IntKind.u64.wrap ((HI : Int) + (C1 : Int)) = (HI : Int) + (C1 : Int) := IntWalk.u64_in _ (by omega)
          have kH2 : IntKind.u64.wrap ((HI : Int) + (C1 : Int) + (C2 : Int)) = (HI : Int) + (C1 : Int) + (C2 : Int) := IntWalk.u64_in _ (by omega)
          have HN := Lib.hid (HR.out.step hb hi hj hS2 hH (by rw [hX, hY, hO]; omega))
          clear HR e1 e2 e3 e4 e5 e6 e7 hX hY hO hXl hYl
          go_wp2_with fail
          refine region_mixW [0, 0, 0, 0, 0, 0, 0, 0, 0, 0, 0, 0] (by kernel_rfl) (by kernel_rfl) (by kernel_rfl) ?_
          repeat (first | (refine wpM_quiet (fun K hK => ?_); go_simp; first | (refine hK _ ?_; clear hK K) | (apply Exists.intro; refine ⟨fun _ => ?_, hK _ ?_⟩; (first | (go_at_call 169; exact bq (HM.out _) (fun d => ⟨d, rfl⟩))); clear hK K)) | (refine wpM_special (fun K hK d => ?_); go_simp; refine hK _ _ (by first | exact lay_in w [_] _ | exact lay_in w [_, _] _ | exact lay_in w [_, _, _] _ | exact lay_in w [_, _, _, _] _ | exact lay_in w [_, _, _, _, _] _ | exact lay_in w [_, _, _, _, _, _] _) ?_; clear hK K))
          refine wpM_nil ?_
          intro d
          rw [lay_bw]
          go_wp2_with fail
          rw [nuA_set]
          obtain ⟨d3, e3⟩ := lay_fold w [.inr d, .inr dd] [.inl (.cells (nuA (o.set (i + j + 1) S2)) 216 (0, 0)), .inl (.cells #[.int .u64 0, .int .u64 0, .int .u64 0, .int .u64 0] 166 (0, 0)), .inl (.cells (nuA b) 166 (0, 0)), .inl (.cells (nuA a) 166 (0, 0))]
          change lay w [.inr d, .inr dd, .inl (.cells (nuA (o.set (i + j + 1) S2)) 216 (0, 0)), .inl (.cells #[.int .u64 0, .int .u64 0, .int .u64 0, .int .u64 0] 166 (0, 0)), .inl (.cells (nuA b) 166 (0, 0)), .inl (.cells (nuA a) 166 (0, 0))] = _ at e3
          rw [e3]
          exact ⟨⟨j, HI + C1 + C2, o.set (i + j + 1) S2, d3, by omega, by first | rfl | exact congrArg (Value.int .u64) (by omega), rfl, rfl, HN.out⟩, by simp [intOf]⟩
end Go.Proofs.YtkhhdpndcidmgaaGreat
/- The comparison of arrays of four words with zero. -/
namespace Go.Proofs.YtkhhdpndcidmgaaGreat
open Go.RowKit

theorem part_u64 {xs : Array Value} {off : Nat} {v : Value} (hx : xs[off]? = some v) (W : World) : (part 164 xs off).run Tryz.prog W = .ok v W := run_part_plain W (by kernel_rfl) hx
theorem eql_u64 (d : Nat) (a b : Int) (W : World) : (Op.equalIn (d + 1) 164 (.int .u64 a) (.int .u64 b)).run Tryz.prog W = .ok (a == b) W := run_equalIn_int W d _ _ _ a b Tryz.underlying164
set_option maxRecDepth 100000 in
theorem neq_num (x0 x1 x2 x3 : Int) (W : World) : (binOp .neq 166 (.agg #[.int .u64 x0, .int .u64 x1, .int .u64 x2, .int .u64 x3]) (.agg #[.int .u64 0, .int .u64 0, .int .u64 0, .int .u64 0])).run Tryz.prog W = .ok (.bool (!(x0 == 0 && (x1 == 0 && (x2 == 0 && x3 == 0))))) W := by
  obtain ⟨i, hi⟩ : ∃ i, Tryz.prog.info? 164 = some i := ⟨_, rfl⟩
  have hc : Tryz.prog.cellsOf 164 = 1 := by kernel_rfl
  rw [run_neq_struct, run_equalIn_array W 9999 _ _ Tryz.underlying166 hi, hc]
  have hr : List.range 4 = [0, 1, 2, 3] := rfl
  rw [hr]
  have e := eql_u64 9998
  simp only [Op.eqItems, Sem.run_bind]
  rw [part_u64 (v := .int .u64 x0) rfl]
  simp only [Result.andThen_ok]
  rw [part_u64 (v := .int .u64 0) rfl]
  simp only [Result.andThen_ok]
  rw [e]
  cases h0 : (x0 == 0)
  · simp [Result.andThen]
  · simp only [Result.andThen_ok, Bool.not_true, Bool.false_eq_true, if_false, Bool.true_and, Sem.run_bind]
    rw [part_u64 (v := .int .u64 x1) rfl]
    simp only [Result.andThen_ok]
    rw [part_u64 (v := .int .u64 0) rfl]
    simp only [Result.andThen_ok]
    rw [e]
    cases h1 : (x1 == 0)
    · simp [Result.andThen]
    · simp only [Result.andThen_ok, Bool.not_true, Bool.false_eq_true, if_false, Bool.true_and, Sem.run_bind]
      rw [part_u64 (v := .int .u64 x2) rfl]
      simp only [Result.andThen_ok]
      rw [part_u64 (v := .int .u64 0) rfl]
      simp only [Result.andThen_ok]
      rw [e]
      cases h2 : (x2 == 0)
      · simp [Result.andThen]
      · simp only [Result.andThen_ok, Bool.not_true, Bool.false_eq_true, if_false, Bool.true_and, Sem.run_bind]
        rw [part_u64 (v := .int .u64 x3) rfl]
        simp only [Result.andThen_ok]
        rw [part_u64 (v := .int .u64 0) rfl]
        simp only [Result.andThen_ok]
        rw [e]
        cases h3 : (x3 == 0)
        · simp [Result.andThen]
        · simp [Result.andThen]
end Go.Proofs.YtkhhdpndcidmgaaGreat
