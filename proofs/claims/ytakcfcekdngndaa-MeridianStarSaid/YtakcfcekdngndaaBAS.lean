/- Contracts and plain laws, several texts in one: Qn4; Qn0; QnP; QnQ -/
import Derived.Test.YtakcfcekdngndaaProg
import Derived.WalkKit
import Derived.WalkSpells
import Derived.WalkLawsBesides
import Derived.Lib.Hide
import Derived.BigQuiet
import Derived.ChangeKeysEq
import GoSem.Core.Next
import Derived.Test.YtakcfcekdngndaaBAA
import Derived.Test.YtakcfcekdngndaaBAE
import Derived.Test.YtakcfcekdngndaaBAM
import Derived.Test.YtakcfcekdngndaaBAR
/- Numbers of an integral part and three words of the fraction: the walk of the product. -/
namespace Go.Proofs.Ytakcfcekdngndaa
open Go.RowKit

set_option maxHeartbeats 4000000 in
set_option maxRecDepth 100000 in
theorem qn_mul (a b : List Nat) (ha : Wd 4 a) (hb : Wd 4 b) (hab : val4 a * val4 b < 18446744073709551616 ^ 7) (w : World) :
    Calls Try.prog 101 #[nuV a, nuV b] w fun e w' => ∃ r d, e = .returned (nuV r) ∧ w' = bw w d ∧ Wd 4 r ∧ val4 r = val4 a * val4 b / 18446744073709551616 ^ 3 := by
  refine lay_start ?_
  have HLT := Lib.hid hab
  clear hab
  unfold nuV
  go_enter Try.func101, Try.ntmps101
  go_wp2_with fail
  rw [← nuA_four ha.len, ← nuA_four hb.len, zero8_cells]
  go_loopw [6, 7, 8, 9, 10, 11] (fun v6 _ _ _ _ _ wr => ∃ (k : Nat) (o : List Nat) (d : Ext), k ≤ 4 ∧ v6 = .int .i64 ((k : Int) - 1) ∧ wr = lay w [.inr d, .inl (.cells (nuA o) 111 (0, 0)), .inl (.cells #[.int .u64 0, .int .u64 0, .int .u64 0, .int .u64 0] 93 (0, 0)), .inl (.cells (nuA b) 93 (0, 0)), .inl (.cells (nuA a) 93 (0, 0))] ∧ Wd 8 o ∧ (∀ q, q < k → nt o q = 0) ∧ valB 18446744073709551616 o = valB 18446744073709551616 (a.drop k) * val4 b) (fun v6 _ _ _ _ _ _ => (intOf v6 + 1).toNat)
  case atStart => exact ⟨4, _, noExt _, Nat.le_refl _, rfl, (bw_noExt _).symm, zero8.1, fun q _ => zero8_nt q, by rw [zero8.2, List.drop_eq_nil_of_le (by rw [ha.len]; exact Nat.le_refl 4)]; simp [valB]⟩
  case round =>
    obtain ⟨k, o, d, hk, rfl, rfl, ho, hz, hV⟩ := hrel
    have HO := Lib.hid (And.intro ho (And.intro hz hV))
    clear ho hz hV
    rcases k with _ | i
    · rw [show ((0 : Nat) : Int) - 1 = -1 from rfl]
      have hT := mid4 HO.out.1 (by rw [HO.out.2.2, List.drop_zero]; exact HLT.out)
      have hv : val4 ((o.drop 1).take 4) = val4 a * val4 b / 18446744073709551616 ^ 3 := by
        rw [hT.2.1, HO.out.2.2, List.drop_zero]; rfl
      have g0 := nuA_get (l := o) (i := 1) (by rw [HO.out.1.len]; decide)
      have g1 := nuA_get (l := o) (i := 2) (by rw [HO.out.1.len]; decide)
      have g2 := nuA_get (l := o) (i := 3) (by rw [HO.out.1.len]; decide)
      have g3 := nuA_get (l := o) (i := 4) (by rw [HO.out.1.len]; decide)
      rw [← hT.2.2 0 (by decide)] at g0
      rw [← hT.2.2 1 (by decide)] at g1
      rw [← hT.2.2 2 (by decide)] at g2
      rw [← hT.2.2 3 (by decide)] at g3
      have HE := Lib.hid (And.intro hT.1 hv)
      have hat : ∀ W, (Instr.arrayAt 93 (.slice (some ⟨posn w [1, 1, 1], 1, none⟩) 4 7)).run Try.prog W = .ok (.pointer (some ⟨posn w [1, 1, 1], 1, none⟩)) W := fun W => run_arrayAt W 93 _ 4 _ 4 7 Try.underlying93 (by decide)
      clear hT hv
      generalize (o.drop 1).take 4 = r at *
      go_wp2_with fail
      obtain ⟨dz, ez⟩ := lay_all w [.inr d, .inl (.cells (nuA o) 111 (0, 0)), .inl (.cells #[.int .u64 (nt r 0 : Int), .int .u64 (nt r 1 : Int), .int .u64 (nt r 2 : Int), .int .u64 (nt r 3 : Int)] 93 (0, 0)), .inl (.cells (nuA b) 93 (0, 0)), .inl (.cells (nuA a) 93 (0, 0))]
      exact bodyPost_ret (v := .agg #[.int .u64 (nt r 0 : Int), .int .u64 (nt r 1 : Int), .int .u64 (nt r 2 : Int), .int .u64 (nt r 3 : Int)]) (by simp [results, Try.results101, go_sem]) rfl ⟨r, dz, rfl, ez, HE.out.1, HE.out.2⟩
    · rw [show ((i + 1 : Nat) : Int) - 1 = (i : Int) by omega]
      have hi : i < 4 := by omega
      have x0 : (0 : Int) ≤ (i : Int) := by omega
      have x1 : (i : Int) < 4 := by omega
      have x3 : (i : Int) < 8 := by omega
      have x2 : (i : Int).toNat = i := by omega
      go_wp2_with fail
      go_loopw [7, 8, 9, 10, 11] (fun v7 v8 _ _ _ wr => ∃ (k c : Nat) (o : List Nat) (d : Ext), k ≤ 4 ∧ v7 = .int .u64 (c : Int) ∧ v8 = .int .i64 ((k : Int) - 1) ∧ wr = lay w [.inr d, .inl (.cells (nuA o) 111 (0, 0)), .inl (.cells #[.int .u64 0, .int .u64 0, .int .u64 0, .int .u64 0] 93 (0, 0)), .inl (.cells (nuA b) 93 (0, 0)), .inl (.cells (nuA a) 93 (0, 0))] ∧ RowF a b i (valB 18446744073709551616 (a.drop (i + 1)) * val4 b) o k c) (fun _ v8 _ _ _ _ => (intOf v8 + 1).toNat)
      case atStart =>
        have hs := RowF.start (a := a) (b := b) (i := i) hb HO.out.1 (fun q hq => HO.out.2.1 q (by omega))
        rw [HO.out.2.2] at hs
        exact ⟨4, 0, o, d, Nat.le_refl _, rfl, rfl, rfl, hs⟩
      case round =>
        obtain ⟨k, c, o, dd, hk, rfl, rfl, rfl, hR⟩ := hrel
        have HR := Lib.hid hR
        clear hR HO
        rcases k with _ | j
        · rw [show ((0 : Nat) : Int) - 1 = -1 from rfl]
          have hD := HR.out.done hi
          have e1 : valB 18446744073709551616 (a.drop (i + 1)) * val4 b + nt a i * val4 b * 18446744073709551616 ^ (3 - i) = valB 18446744073709551616 (a.drop i) * val4 b := by
            rw [valB_drop (l := a) (i := i) (by rw [ha.len]; exact hi), ha.len, show 4 - i - 1 = 3 - i by omega]
            generalize 18446744073709551616 ^ (3 - i) = P
            grind
          rw [e1] at hD
          have HD := Lib.hid hD
          have g0 := nuA_get (l := o) (i := i) (by rw [HR.out.wd.len]; omega)
          rw [HR.out.zero i (Nat.le_refl i)] at g0
          have hc : c < 18446744073709551616 := HR.out.cB
          have kc : IntKind.u64.wrap (c : Int) = (c : Int) := IntWalk.u64_in _ (by omega)
          clear HR hD e1
          go_wp2_with fail
          rw [nuA_set]
          exact ⟨⟨i, o.set i c, dd, by omega, rfl, rfl, HD.out⟩, by simp [intOf]⟩
        · rw [show ((j + 1 : Nat) : Int) - 1 = (j : Int) by omega]
          have hj : j < 4 := by omega
          have y0 : (0 : Int) ≤ (j : Int) := by omega
          have y1 : (j : Int) < 4 := by omega
          have y2 : (j : Int).toNat = j := by omega
          have w1 : IntKind.i64.wrap ((i : Int) + (j : Int)) = (i : Int) + (j : Int) := IntWalk.i64_in _ (by omega)
          have w2 : IntKind.i64.wrap ((i : Int) + (j : Int) + 1) = (i : Int) + (j : Int) + 1 := IntWalk.i64_in _ (by omega)
          have w4 : (0 : Int) ≤ (i : Int) + (j : Int) + 1 := by omega
          have w5 : (i : Int) + (j : Int) + 1 < 8 := by omega
          have w6 : ((i : Int) + (j : Int) + 1).toNat = i + j + 1 := by omega
          obtain ⟨X, hX⟩ : ∃ X, nt a i = X := ⟨_, rfl⟩
          obtain ⟨Y, hY⟩ : ∃ Y, nt b j = Y := ⟨_, rfl⟩
          obtain ⟨O, hO⟩ : ∃ O, nt o (i + j + 1) = O := ⟨_, rfl⟩
          have g0 := nuA_get (l := a) (i := i) (by rw [ha.len]; exact hi)
          have g1 := nuA_get (l := b) (i := j) (by rw [hb.len]; exact hj)
          have g2 := nuA_get (l := o) (i := i + j + 1) (by rw [HR.out.wd.len]; omega)
          rw [hX] at g0
          rw [hY] at g1
          rw [hO] at g2
          have hXl : X < 18446744073709551616 := by rw [← hX]; exact ha.lt i
          have hYl : Y < 18446744073709551616 := by rw [← hY]; exact hb.lt j
          obtain ⟨HI, LO, S1, C1, S2, C2, e1, e2, e3, e4, e5, e6, hC1, hC2, hS2, hS1, hLO, hH, e7⟩ := row_word (x := X) (y := Y) (o := O) (c := c) (B := 18446744073709551616) hXl hYl (by rw [← hO]; exact HR.out.wd.lt _) HR.out.cB
          have HM := Lib.hid (one_call (fun W => Try.bits_Mul64 X Y hXl hYl W))
          rw [e1, e2] at HM
          have hcall1 : ∀ W, (callFunc 104 #[.int .u64 (LO : Int), .int .u64 (O : Int), .int .u64 0]).run Try.prog W = .ok (.value (.tuple #[.int .u64 (S1 : Int), .int .u64 (C1 : Int)])) W := fun W => by
            have := add64 LO O 0 (by omega) W
            rw [Nat.add_comm LO O, e3, e4] at this
            exact this
          have hcall2 : ∀ W, (callFunc 104 #[.int .u64 (S1 : Int), .int .u64 (c : Int), .int .u64 0]).run Try.prog W = .ok (.value (.tuple #[.int .u64 (S2 : Int), .int .u64 (C2 : Int)])) W := fun W => by
            have := add64 S1 c 0 (by omega) W
            rw [e5, e6] at this
            exact this
          have kH1 : IntKind.u64.wrap ((HI : Int) + (C1 : Int)) = (HI : Int) + (C1 : Int) := IntWalk.u64_in _ (by omega)
          have kH2 : IntKind.u64.wrap ((HI : Int) + (C1 : Int) + (C2 : Int)) = (HI : Int) + (C1 : Int) + (C2 : Int) := IntWalk.u64_in _ (by omega)
          have HN := Lib.hid (HR.out.step hb hi hj hS2 hH (by rw [hX, hY, hO]; omega))
          clear HR e1 e2 e3 e4 e5 e6 e7 hX hY hO hXl hYl
          go_wp2_with fail
          refine region_mixW [0, 0, 0, 0, 0, 0, 0, 0, 0, 0, 0, 0] (by kernel_rfl) (by kernel_rfl) (by kernel_rfl) ?_
          repeat (first | (refine wpM_quiet (fun K hK => ?_); go_simp; first | (refine hK _ ?_; clear hK K) | (apply Exists.intro; refine ⟨fun _ => ?_, hK _ ?_⟩; (first | (go_at_call 103; exact bq (HM.out _) (fun d => ⟨d, rfl⟩))); clear hK K)) | (refine wpM_special (fun K hK d => ?_); go_simp; refine hK _ _ (by first | exact lay_in w [_] _ | exact lay_in w [_, _] _ | exact lay_in w [_, _, _] _ | exact lay_in w [_, _, _, _] _ | exact lay_in w [_, _, _, _, _] _ | exact lay_in w [_, _, _, _, _, _] _) ?_; clear hK K))
          refine wpM_nil ?_
          intro d
          rw [lay_bw]
          go_wp2_with fail
          rw [nuA_set]
          obtain ⟨d3, e3⟩ := lay_fold w [.inr d, .inr dd] [.inl (.cells (nuA (o.set (i + j + 1) S2)) 111 (0, 0)), .inl (.cells #[.int .u64 0, .int .u64 0, .int .u64 0, .int .u64 0] 93 (0, 0)), .inl (.cells (nuA b) 93 (0, 0)), .inl (.cells (nuA a) 93 (0, 0))]
          change lay w [.inr d, .inr dd, .inl (.cells (nuA (o.set (i + j + 1) S2)) 111 (0, 0)), .inl (.cells #[.int .u64 0, .int .u64 0, .int .u64 0, .int .u64 0] 93 (0, 0)), .inl (.cells (nuA b) 93 (0, 0)), .inl (.cells (nuA a) 93 (0, 0))] = _ at e3
          rw [e3]
          exact ⟨⟨j, HI + C1 + C2, o.set (i + j + 1) S2, d3, by omega, by first | rfl | exact congrArg (Value.int .u64) (by omega), rfl, rfl, HN.out⟩, by simp [intOf]⟩
end Go.Proofs.Ytakcfcekdngndaa
/- The comparison of arrays of four words with zero. -/
namespace Go.Proofs.Ytakcfcekdngndaa
open Go.RowKit

theorem part_u64 {xs : Array Value} {off : Nat} {v : Value} (hx : xs[off]? = some v) (W : World) : (part 91 xs off).run Try.prog W = .ok v W := run_part_plain W (by kernel_rfl) hx
theorem eql_u64 (d : Nat) (a b : Int) (W : World) : (Op.equalIn (d + 1) 91 (.int .u64 a) (.int .u64 b)).run Try.prog W = .ok (a == b) W := run_equalIn_int W d _ _ _ a b Try.underlying91
set_option maxRecDepth 100000 in
theorem neq_num (x0 x1 x2 x3 : Int) (W : World) : (binOp .neq 93 (.agg #[.int .u64 x0, .int .u64 x1, .int .u64 x2, .int .u64 x3]) (.agg #[.int .u64 0, .int .u64 0, .int .u64 0, .int .u64 0])).run Try.prog W = .ok (.bool (!(x0 == 0 && (x1 == 0 && (x2 == 0 && x3 == 0))))) W := by
  obtain ⟨i, hi⟩ : ∃ i, Try.prog.info? 91 = some i := ⟨_, rfl⟩
  have hc : Try.prog.cellsOf 91 = 1 := by kernel_rfl
  rw [run_neq_struct, run_equalIn_array W 9999 _ _ Try.underlying93 hi, hc]
  have hr : List.range 4 = [0, 1, 2, 3] := rfl
  rw [hr]
  have e := eql_u64 9998
  simp only [Op.eqItems, Sem.run_bind]
  rw [part_u64 (v := .int .u64 x0) rfl]
  simp only [Result.andThen_ok]
  rw [part_u64 (v := .int .u64 0) rfl]
  simp only [Result.andThen_ok]
  rw [e]
  cases h0 : (x0 == 0)
  · simp [Result.andThen]
  · simp only [Result.andThen_ok, Bool.not_true, Bool.false_eq_true, if_false, Bool.true_and, Sem.run_bind]
    rw [part_u64 (v := .int .u64 x1) rfl]
    simp only [Result.andThen_ok]
    rw [part_u64 (v := .int .u64 0) rfl]
    simp only [Result.andThen_ok]
    rw [e]
    cases h1 : (x1 == 0)
    · simp [Result.andThen]
    · simp only [Result.andThen_ok, Bool.not_true, Bool.false_eq_true, if_false, Bool.true_and, Sem.run_bind]
      rw [part_u64 (v := .int .u64 x2) rfl]
      simp only [Result.andThen_ok]
      rw [part_u64 (v := .int .u64 0) rfl]
      simp only [Result.andThen_ok]
      rw [e]
      cases h2 : (x2 == 0)
      · simp [Result.andThen]
      · simp only [Result.andThen_ok, Bool.not_true, Bool.false_eq_true, if_false, Bool.true_and, Sem.run_bind]
        rw [part_u64 (v := .int .u64 x3) rfl]
        simp only [Result.andThen_ok]
        rw [part_u64 (v := .int .u64 0) rfl]
        simp only [Result.andThen_ok]
        rw [e]
        cases h3 : (x3 == 0)
        · simp [Result.andThen]
        · simp [Result.andThen]
end Go.Proofs.Ytakcfcekdngndaa
/- Rounded sums of series with alternating signs, by products that are rounded down; a circle with 192 binary digits. No program in sight. -/
namespace Go.Proofs.Ytakcfcekdngndaa

def nexQ (M sq t d : Nat) : Nat := t * sq / M / (d * (d + 1))
def altQ (M sq : Nat) : Nat → Nat → Nat → Int
  | 0, _, _ => 0
  | f + 1, t, d => (t : Int) - altQ M sq f (nexQ M sq t d) (d + 2)
theorem nr_mulM {M a b : Nat} (hM : 0 < M) : Nr (((a * b / M : Nat) : Rat) / (M : Rat)) ((a : Rat) / (M : Rat) * ((b : Rat) / (M : Rat))) (3 / (M : Rat)) := by
  have h1 := Nat.div_mul_le_self (a * b) M
  have h2 : a * b < (a * b / M + 1) * M := Nat.lt_mul_of_div_lt (Nat.lt_succ_self _) hM
  have h3 : (a * b / M + 1) * M ≤ (a * b / M + 3) * M := Nat.mul_le_mul_right M (by omega)
  exact nr_mul (k := 3) hM h1 (Nat.le_trans (Nat.le_of_lt h2) h3)
theorem mulM_le {M a b : Nat} (hM : 0 < M) (hb : b ≤ M) : a * b / M ≤ a := by
  have := Nat.div_le_div_right (c := M) (Nat.mul_le_mul_left a hb)
  rwa [Nat.mul_div_cancel _ hM] at this
theorem nexQ_le {M sq t d : Nat} (hM : 0 < M) (hsq : sq ≤ M) (hd : 1 ≤ d) : nexQ M sq t d * 2 ≤ t := by
  unfold nexQ
  have h1 := mulM_le (a := t) hM hsq
  have h2 := Nat.div_mul_le_self (t * sq / M) (d * (d + 1))
  have h3 := Nat.mul_le_mul_left (t * sq / M / (d * (d + 1))) (dd_ge hd)
  omega
theorem altQ_zero {M sq : Nat} : ∀ {f d : Nat}, altQ M sq f 0 d = 0
  | 0, _ => rfl
  | f + 1, d => by
    have : nexQ M sq 0 d = 0 := by unfold nexQ; simp
    unfold altQ
    rw [this, altQ_zero]
    rfl
/-- More rounds change nothing. -/
theorem altQ_more {M sq : Nat} (hM : 0 < M) (hsq : sq ≤ M) : ∀ {f t d : Nat}, 1 ≤ d → t < 2 ^ f → altQ M sq (f + 1) t d = altQ M sq f t d
  | 0, t, d, hd, ht => by
    obtain rfl : t = 0 := by omega
    rw [altQ_zero]; rfl
  | f + 1, t, d, hd, ht => by
    have hn := nexQ_le (t := t) hM hsq hd
    show (t : Int) - altQ M sq (f + 1) (nexQ M sq t d) (d + 2) = (t : Int) - altQ M sq f (nexQ M sq t d) (d + 2)
    rw [altQ_more hM hsq (f := f) (t := nexQ M sq t d) (d := d + 2) (by omega) (by rw [Nat.pow_succ] at ht; omega)]
theorem altQ_next {M sq f t d : Nat} (hM : 0 < M) (hsq : sq ≤ M) (hd : 1 ≤ d) (ht : t < 2 ^ f) : altQ M sq f t d = (t : Int) - altQ M sq f (nexQ M sq t d) (d + 2) := by
  have h := altQ_more hM hsq hd ht
  rw [← h]
  show (t : Int) - altQ M sq f (nexQ M sq t d) (d + 2) = _
  rfl
theorem altQ_ok {M sq : Nat} (hM : 0 < M) (hsq : sq ≤ M) : ∀ {f t d : Nat}, 1 ≤ d → t ≤ 2 ^ f → Nr ((altQ M sq f t d : Rat) / (M : Rat)) ((t : Rat) / (M : Rat) * (1 - tay ((sq : Rat) / (M : Rat)) d f)) ((1 + 3 * (f : Rat)) * (1 / (M : Rat)))
  | 0, t, d, hd, ht => by
    have hM2 : (0 : Rat) < (M : Rat) := by exact_mod_cast hM
    have hi : 0 ≤ 1 / (M : Rat) := by rw [Rat.div_def, Rat.one_mul]; exact Rat.le_of_lt (Rat.inv_pos.2 hM2)
    have h1 : (t : Rat) ≤ 1 := by exact_mod_cast ht
    have h0 : (0 : Rat) ≤ (t : Rat) := by exact_mod_cast Nat.zero_le t
    have h2 := rmul h0 h1 hi Rat.le_refl
    have h3 := rmul0 h0 hi
    unfold altQ tay
    have e0 : (((0 : Int) : Rat)) = 0 := rfl
    have e1 : (((0 : Nat) : Rat)) = 0 := rfl
    rw [e0, e1]
    constructor <;> grind
  | f + 1, t, d, hd, ht => by
    have hn := nexQ_le (t := t) hM hsq hd
    have ih := altQ_ok hM hsq (f := f) (t := nexQ M sq t d) (d := d + 2) (by omega) (by rw [Nat.pow_succ] at ht; omega)
    have hg := nr_mulM (a := t) (b := sq) hM
    have hdd := dd_ge hd
    have hq := nr_div (y := t * sq / M) hM (show 0 < d * (d + 1) by omega)
    simp only [altQ, tay]
    unfold nexQ at *
    have hM2 : (0 : Rat) < (M : Rat) := by exact_mod_cast hM
    have hi : 0 ≤ 1 / (M : Rat) := by rw [Rat.div_def, Rat.one_mul]; exact Rat.le_of_lt (Rat.inv_pos.2 hM2)
    have hy1 : (sq : Rat) / (M : Rat) ≤ 1 := by
      have := natB hM hsq
      rwa [show (M : Rat) / (M : Rat) = 1 by grind] at this
    have hy0 := nat0 (a := sq) hM
    obtain ⟨t0, t1⟩ := tay_in hy0 hy1 (m := f) (d := d + 2) (by omega)
    have h2 := two_le hd
    obtain ⟨r0, r1, r2⟩ := div_ge (show (0 : Rat) ≤ 1 by decide) h2
    have e1 : ((d * (d + 1) : Nat) : Rat) = (d : Rat) * ((d : Rat) + 1) := by push_cast; rfl
    rw [e1] at hq
    generalize t * sq / M / (d * (d + 1)) = n1 at *
    generalize ((t * sq / M : Nat) : Rat) / (M : Rat) = H at *
    generalize hk : (d : Rat) * ((d : Rat) + 1) = k at *
    generalize hT : tay ((sq : Rat) / (M : Rat)) (d + 2) f = T at *
    generalize (sq : Rat) / (M : Rat) = Y at *
    generalize altQ M sq f n1 (d + 2) = A at *
    have hg2 := hg.mulc r0 r1 hg.pos
    have e2 : 1 / k * H = H / k := by grind
    have e3 : 1 / k * ((t : Rat) / (M : Rat) * Y) = (t : Rat) / (M : Rat) * Y / k := by grind
    rw [e2, e3] at hg2
    have h5 := hq.trans hg2
    have h6 := h5.mulc (c := 1 - T) (m := 1) (by grind) (by grind) h5.pos
    have h7 := ih.trans (by rw [Rat.mul_comm]; exact h6)
    have h8 := (Nr.refl ((t : Rat) / (M : Rat))).sub h7
    have e4 : (((t : Int) - A : Int) : Rat) / (M : Rat) = (t : Rat) / (M : Rat) - (A : Rat) / (M : Rat) := by push_cast; grind
    have e5 : (t : Rat) / (M : Rat) * (1 - Y / k * (1 - T)) = (t : Rat) / (M : Rat) - (1 - T) * ((t : Rat) / (M : Rat) * Y / k) := by grind
    rw [e4, e5]
    refine h8.le ?_
    push_cast
    grind
/-- The digits of pi, the scale, the angle, its square. -/
def m192 : Nat := 6277101735386680763835789423207666416102355444464034512896
def piA : Nat := piN / 18446744073709551616
def tA (k : Nat) : Nat := k * piA / 10800000
def sqA (k : Nat) : Nat := tA k * tA k / m192
def sinA (k : Nat) : Int := altQ m192 (sqA k) 200 (tA k) 2
def cosA (k : Nat) : Int := altQ m192 (sqA k) 200 m192 1
theorem m192_pos : 0 < m192 := by decide +kernel
theorem m192_pow : m192 = 18446744073709551616 ^ 3 := by decide +kernel
end Go.Proofs.Ytakcfcekdngndaa
/- The circle with 192 binary digits is near to the exact rotation. No program in sight. -/
namespace Go.Proofs.Ytakcfcekdngndaa

theorem m192_rat : (0 : Rat) < (m192 : Rat) := by exact_mod_cast m192_pos
theorem m192_big : 1 / (m192 : Rat) ≤ 1 / 100000000000000000000000000000000000000000 := by
  have h : 100000000000000000000000000000000000000000 ≤ m192 := by decide +kernel
  have h2 : (100000000000000000000000000000000000000000 : Rat) ≤ (m192 : Rat) := by exact_mod_cast h
  refine Rat.le_of_mul_le_mul_right (c := (m192 : Rat)) ?_ m192_rat
  rw [Rat.div_mul_cancel (by have := m192_rat; grind)]
  grind
theorem piA_ok : piA * 18446744073709551616 ≤ piN ∧ piN ≤ (piA + 1) * 18446744073709551616 := by decide +kernel
theorem piD_at : piD = 18446744073709551616 * (m192 * 10800000) := by decide +kernel
theorem tA_near {k : Nat} (hk : k ≤ 2700000) : Nr ((tA k : Rat) / (m192 : Rat)) (xi k) (2 / (m192 : Rat)) := by
  obtain ⟨u1, u2⟩ := piA_ok
  have h1 := nfl (a := k * piA) (K := 10800000) (by decide)
  change Nr ((tA k : Nat) : Rat) _ _ at h1
  have hM := m192_rat
  have v1 : (piA : Rat) * 18446744073709551616 ≤ (piN : Rat) := by
    have := Rat.natCast_le_natCast.2 u1
    rw [Rat.natCast_mul] at this
    exact this
  have v2 : (piN : Rat) ≤ ((piA : Rat) + 1) * 18446744073709551616 := by
    have := Rat.natCast_le_natCast.2 u2
    rw [Rat.natCast_mul, Rat.natCast_add] at this
    exact this
  have hD : (piD : Rat) = 18446744073709551616 * ((m192 : Rat) * 10800000) := by
    have : ((piD : Nat) : Rat) = ((18446744073709551616 * (m192 * 10800000) : Nat) : Rat) := by rw [← piD_at]
    rw [this, Rat.natCast_mul, Rat.natCast_mul]
    rfl
  have hk2 : (k : Rat) ≤ 2700000 := by exact_mod_cast hk
  have hk0 : (0 : Rat) ≤ (k : Rat) := by exact_mod_cast Nat.zero_le k
  unfold xi
  rw [hD]
  rw [Rat.natCast_mul] at h1
  have hK : ((10800000 : Nat) : Rat) = 10800000 := rfl
  rw [hK] at h1
  generalize (piN : Rat) = N at *
  generalize (piA : Rat) = P at *
  generalize ((tA k : Nat) : Rat) = T at *
  generalize (m192 : Rat) = M at *
  obtain ⟨a1, a2⟩ := h1
  have hi : 0 < 1 / M := by rw [Rat.div_def, Rat.one_mul]; exact Rat.inv_pos.2 hM
  have y1 := Rat.mul_le_mul_of_nonneg_left v1 hk0
  have y2 := Rat.mul_le_mul_of_nonneg_left v2 hk0
  have e1 : (k : Rat) * (N / (18446744073709551616 * (M * 10800000))) = (k : Rat) * N / 18446744073709551616 / 10800000 * (1 / M) := by grind
  have e2 : T / M = T * (1 / M) := by grind
  have e3 : 2 / M = 2 * (1 / M) := by grind
  rw [e1, e2, e3]
  have b1 : T ≤ (k : Rat) * N / 18446744073709551616 / 10800000 + 2 := by grind
  have b2 : (k : Rat) * N / 18446744073709551616 / 10800000 ≤ T + 2 := by grind
  have c1 := Rat.mul_le_mul_of_nonneg_right b1 (Rat.le_of_lt hi)
  have c2 := Rat.mul_le_mul_of_nonneg_right b2 (Rat.le_of_lt hi)
  constructor <;> grind
theorem sqA_near {r : Nat} (hr : r ≤ 2700000) : sqA r ≤ m192 ∧ tA r ≤ m192 ∧ Nr ((sqA r : Rat) / (m192 : Rat)) (xi r * xi r) (7 / (m192 : Rat)) ∧ (tA r : Rat) / (m192 : Rat) ≤ 1 := by
  have hn := tA_near hr
  have hx4 := xi_in (n := r) (by omega)
  have hb := m192_big
  have hx1 : (tA r : Rat) / (m192 : Rat) ≤ 1 := by
    obtain ⟨a, b⟩ := hn; grind
  have hx2 : tA r ≤ m192 := by
    have h0 := m192_rat
    have := Rat.mul_le_mul_of_nonneg_right hx1 (Rat.le_of_lt h0)
    rw [Rat.div_mul_cancel (by grind), Rat.one_mul] at this
    exact_mod_cast this
  have hg := nr_mulM (a := tA r) (b := tA r) m192_pos
  have hx0 : 0 ≤ (tA r : Rat) / (m192 : Rat) := nat0 m192_pos
  have hp := hn.mul hn hx0 hx1 hx4.1 (show xi r ≤ 1 by grind)
  exact ⟨Nat.le_trans (mulM_le m192_pos hx2) hx2, hx2, (hg.trans hp).le (by grind), hx1⟩
theorem m192_fuel : m192 ≤ 2 ^ 200 := by decide +kernel
theorem sinA_near {r : Nat} (hr : r ≤ 2700000) : Nr ((sinA r : Rat) / (m192 : Rat)) (sinT r) sml := by
  obtain ⟨h1, h2, h3, h4⟩ := sqA_near hr
  have hx4 := xi_in (n := r) (by omega)
  have hq := sq_in hx4
  have ha := altQ_ok m192_pos h1 (f := 200) (t := tA r) (d := 2) (by decide) (Nat.le_trans h2 m192_fuel)
  have hb := m192_big
  have hy0 : 0 ≤ (sqA r : Rat) / (m192 : Rat) := nat0 m192_pos
  have hy1 : (sqA r : Rat) / (m192 : Rat) ≤ 1 := by obtain ⟨a, b⟩ := h3; grind
  have hx0 : 0 ≤ (tA r : Rat) / (m192 : Rat) := nat0 m192_pos
  have g1 := tay_arg hy0 hy1 hq.1 (by grind) h3 (m := 200) (d := 2) (by decide)
  have g2 := tay_more hq.1 (by grind) 186 (m := 14) (d := 2) (by decide)
  have g3 := (Nr.refl 1).sub (g1.trans g2)
  obtain ⟨t0, t1⟩ := tay_in hq.1 (by grind) (m := 14) (d := 2) (by decide)
  have g4 := (tA_near hr).mul g3 hx0 h4 (show 0 ≤ 1 - tay (xi r * xi r) 2 14 by grind) (show 1 - tay (xi r * xi r) 2 14 ≤ 1 by grind)
  have hf := facT_sml (d := 2) (by decide +kernel)
  have hm : 0 ≤ 1 / (m192 : Rat) := by rw [Rat.div_def, Rat.one_mul]; exact Rat.le_of_lt (Rat.inv_pos.2 m192_rat)
  unfold sinT sinA
  refine (ha.trans g4).le ?_
  have e64 : ((200 : Nat) : Rat) = 200 := rfl
  rw [e64]
  unfold sml at *
  generalize (m192 : Rat) = M at *
  grind
theorem cosA_near {r : Nat} (hr : r ≤ 2700000) : Nr ((cosA r : Rat) / (m192 : Rat)) (cosT r) sml := by
  obtain ⟨h1, h2, h3, h4⟩ := sqA_near hr
  have hx4 := xi_in (n := r) (by omega)
  have hq := sq_in hx4
  have ha := altQ_ok m192_pos h1 (f := 200) (t := m192) (d := 1) (by decide) m192_fuel
  have hb := m192_big
  have hy0 : 0 ≤ (sqA r : Rat) / (m192 : Rat) := nat0 m192_pos
  have hy1 : (sqA r : Rat) / (m192 : Rat) ≤ 1 := by obtain ⟨a, b⟩ := h3; grind
  have g1 := tay_arg hy0 hy1 hq.1 (by grind) h3 (m := 200) (d := 1) (by decide)
  have g2 := tay_more hq.1 (by grind) 186 (m := 14) (d := 1) (by decide)
  have g3 := (Nr.refl 1).sub (g1.trans g2)
  have hf := facT_sml (d := 1) (by decide +kernel)
  have hm : 0 ≤ 1 / (m192 : Rat) := by rw [Rat.div_def, Rat.one_mul]; exact Rat.le_of_lt (Rat.inv_pos.2 m192_rat)
  have hmm : (m192 : Rat) / (m192 : Rat) = 1 := by have := m192_rat; grind
  unfold cosT cosA
  rw [hmm, Rat.one_mul] at ha
  refine (ha.trans g3).le ?_
  have e64 : ((200 : Nat) : Rat) = 200 := rfl
  rw [e64]
  unfold sml at *
  generalize (m192 : Rat) = M at *
  grind
/-- The sine and the cosine that the program reckons with, of an angle up to a right one. -/
def siA (k : Nat) : Int := if 2700000 < k then cosA (5400000 - k) else sinA k
def coA (k : Nat) : Int := if 2700000 < k then sinA (5400000 - k) else cosA k
end Go.Proofs.Ytakcfcekdngndaa
