/- Contracts and plain laws, several texts in one: Nm4; Nm5 -/
import Derived.Test.YtkhhdpndcidmgaaGreatProg
import Derived.WalkKit
import Derived.WalkSpells
import Derived.WalkLawsBesides
import Derived.Lib.Hide
import Derived.BigQuiet
import Derived.Laws.Cover3
import Derived.Test.YtkhhdpndcidmgaaGreatSAC
import Derived.Test.YtkhhdpndcidmgaaGreatSAD
import Derived.Test.YtkhhdpndcidmgaaGreatSAE
import Derived.Test.YtkhhdpndcidmgaaGreatSAR
/- Products of numbers of four words: the walk. -/
namespace Go.Proofs.YtkhhdpndcidmgaaGreat
open Go.RowKit

theorem zero6 : Wd 6 [0, 0, 0, 0, 0, 0] ∧ valB 18446744073709551616 [0, 0, 0, 0, 0, 0] = 0 := ⟨⟨rfl, fun i => by
  unfold nt
  match i with
  | 0 => decide
  | 1 => decide
  | 2 => decide
  | 3 => decide
  | 4 => decide
  | 5 => decide
  | i + 6 => simp⟩, by simp [valB]⟩
theorem zero6_cells : (#[.int .u64 0, .int .u64 0, .int .u64 0, .int .u64 0, .int .u64 0, .int .u64 0] : Array Value) = nuA [0, 0, 0, 0, 0, 0] := rfl
theorem one_call {P : Program} {f : FuncId} {args : Array Value} {v : Value} (h : ∀ W, Calls P f args W fun e w' => e = .returned v ∧ w' = W) (W : World) : Calls P f args W fun e w' => e = .returned v ∧ ∃ d, w' = bw W d :=
  (h W).mono fun _ _ ⟨h1, h2⟩ => ⟨h1, noExt _, by rw [bw_noExt]; exact h2⟩
set_option maxHeartbeats 4000000 in
set_option maxRecDepth 100000 in
theorem nm_mul (a b : List Nat) (ha : Wd 4 a) (hb : Wd 4 b) (w : World) :
    Calls Tryz.prog 151 #[nuV a, nuV b] w fun e w' => ∃ r d, e = .returned (nuV r) ∧ w' = bw w d ∧ Wd 4 r ∧ val4 r * 18446744073709551616 ^ 4 ≤ val4 a * val4 b ∧ val4 a * val4 b ≤ (val4 r + 2) * 18446744073709551616 ^ 4 := by
  refine lay_start ?_
  have hlt := sumR_lt ha.len hb.len ha.mem hb.mem (by decide)
  have HLT := Lib.hid hlt
  clear hlt
  unfold nuV
  go_enter Tryz.func151, Tryz.ntmps151
  go_wp2_with fail
  rw [← nuA_four ha.len, ← nuA_four hb.len, zero6_cells]
  go_loopw [6, 7, 8, 9, 10, 11, 12, 13] (fun v6 _ _ _ _ _ _ _ wr => ∃ (k : Nat) (o : List Nat) (d : Ext), k ≤ 4 ∧ v6 = .int .i64 ((k : Int) - 1) ∧ wr = lay w [.inr d, .inl (.cells (nuA o) 203 (0, 0)), .inl (.cells #[.int .u64 0, .int .u64 0, .int .u64 0, .int .u64 0] 175 (0, 0)), .inl (.cells (nuA b) 175 (0, 0)), .inl (.cells (nuA a) 175 (0, 0))] ∧ Wd 6 o ∧ valB 18446744073709551616 o = sumR 18446744073709551616 a b (4 - k)) (fun v6 _ _ _ _ _ _ _ _ => (intOf v6 + 1).toNat)
  case atStart => exact ⟨4, _, noExt _, Nat.le_refl _, rfl, (bw_noExt _).symm, zero6.1, zero6.2⟩
  case round =>
    obtain ⟨k, o, d, hk, rfl, rfl, ho, hV⟩ := hrel
    have HO := Lib.hid (And.intro ho hV)
    clear ho hV
    rcases k with _ | i
    · rw [show ((0 : Nat) : Int) - 1 = -1 from rfl]
      have hT := take4 HO.out.1
      have g0 := nuA_get (l := o) (i := 0) (by rw [HO.out.1.len]; decide)
      have g1 := nuA_get (l := o) (i := 1) (by rw [HO.out.1.len]; decide)
      have g2 := nuA_get (l := o) (i := 2) (by rw [HO.out.1.len]; decide)
      have g3 := nuA_get (l := o) (i := 3) (by rw [HO.out.1.len]; decide)
      rw [← hT.2.2 0 (by decide)] at g0
      rw [← hT.2.2 1 (by decide)] at g1
      rw [← hT.2.2 2 (by decide)] at g2
      rw [← hT.2.2 3 (by decide)] at g3
      have HE := Lib.hid (And.intro hT.1 (mul_done ha hb HO.out.1 HO.out.2))
      have hat : ∀ W, (Instr.arrayAt 175 (.slice (some ⟨posn w [1, 1, 1], 0, none⟩) 4 6)).run Tryz.prog W = .ok (.pointer (some ⟨posn w [1, 1, 1], 0, none⟩)) W := fun W => run_arrayAt W 175 _ 4 _ 4 6 Tryz.underlying175 (by decide)
      clear hT
      generalize o.take 4 = r at *
      go_wp2_with fail
      obtain ⟨dz, ez⟩ := lay_all w [.inr d, .inl (.cells (nuA o) 203 (0, 0)), .inl (.cells #[.int .u64 (nt r 0 : Int), .int .u64 (nt r 1 : Int), .int .u64 (nt r 2 : Int), .int .u64 (nt r 3 : Int)] 175 (0, 0)), .inl (.cells (nuA b) 175 (0, 0)), .inl (.cells (nuA a) 175 (0, 0))]
      exact bodyPost_ret (v := .agg #[.int .u64 (nt r 0 : Int), .int .u64 (nt r 1 : Int), .int .u64 (nt r 2 : Int), .int .u64 (nt r 3 : Int)]) (by simp [results, Tryz.results151, go_sem]) rfl ⟨r, dz, rfl, ez, HE.out.1, HE.out.2⟩
    · rw [show ((i + 1 : Nat) : Int) - 1 = (i : Int) by omega]
      have hi : i < 4 := by omega
      have x0 : (0 : Int) ≤ (i : Int) := by omega
      have x1 : (i : Int) < 4 := by omega
      have x2 : (i : Int).toNat = i := by omega
      go_wp2_with fail
      go_loopw [7, 8, 9, 10, 11, 12] (fun v7 v8 _ _ _ _ wr => ∃ (k c : Nat) (o : List Nat) (d : Ext), k ≤ 4 ∧ v7 = .int .u64 (c : Int) ∧ v8 = .int .i64 ((k : Int) - 1) ∧ wr = lay w [.inr d, .inl (.cells (nuA o) 203 (0, 0)), .inl (.cells #[.int .u64 0, .int .u64 0, .int .u64 0, .int .u64 0] 175 (0, 0)), .inl (.cells (nuA b) 175 (0, 0)), .inl (.cells (nuA a) 175 (0, 0))] ∧ RowI a b i (sumR 18446744073709551616 a b (3 - i)) o k c) (fun _ v8 _ _ _ _ _ => (intOf v8 + 1).toNat)
      case atStart =>
        have hs := RowI.start (a := a) (b := b) (i := i) HO.out.1
        rw [HO.out.2, show 4 - (i + 1) = 3 - i by omega] at hs
        exact ⟨4, 0, o, d, Nat.le_refl _, rfl, rfl, rfl, hs⟩
      case round =>
        obtain ⟨k, c, o, dd, hk, rfl, rfl, rfl, hR⟩ := hrel
        have HR := Lib.hid hR
        clear hR HO
        rcases k with _ | j
        · rw [show ((0 : Nat) : Int) - 1 = -1 from rfl]
          have HC := Lib.hid (HR.out.car hi)
          clear HR
          rw [show sumR 18446744073709551616 a b (3 - i) + nt a i * rowM 18446744073709551616 b i 4 = sumR 18446744073709551616 a b (4 - i) by
            rw [show 4 - i = 3 - i + 1 by omega]
            show _ = nt a (3 - (3 - i)) * rowM 18446744073709551616 b (3 - (3 - i)) 4 + sumR 18446744073709551616 a b (3 - i)
            rw [show 3 - (3 - i) = i by omega, Nat.add_comm]] at HC
          have hTl : sumR 18446744073709551616 a b (4 - i) < 18446744073709551616 ^ 6 := Nat.lt_of_le_of_lt (sumR_le (by omega)) HLT.out
          have HTL := Lib.hid hTl
          clear hTl
          go_wp2_with fail
          go_loopw [7, 13] (fun v7 v13 wr => ∃ (q c : Nat) (o : List Nat) (d : Ext), q ≤ i + 1 ∧ v7 = .int .u64 (c : Int) ∧ v13 = .int .i64 ((q : Int) - 1) ∧ wr = lay w [.inr d, .inl (.cells (nuA o) 203 (0, 0)), .inl (.cells #[.int .u64 0, .int .u64 0, .int .u64 0, .int .u64 0] 175 (0, 0)), .inl (.cells (nuA b) 175 (0, 0)), .inl (.cells (nuA a) 175 (0, 0))] ∧ CarI (sumR 18446744073709551616 a b (4 - i)) o q c) (fun _ v13 _ => (intOf v13 + 1).toNat)
          case atStart => exact ⟨i + 1, c, o, dd, Nat.le_refl _, rfl, by first | rfl | exact congrArg (Value.int .i64) (by omega), rfl, HC.out⟩
          case round =>
            obtain ⟨q, c, o, d, hq, rfl, rfl, rfl, hC⟩ := hrel
            have HC := Lib.hid hC
            rcases q with _ | q
            · rw [show ((0 : Nat) : Int) - 1 = -1 from rfl]
              have HF := Lib.hid (And.intro hC.wd (hC.done HTL.out (.inl rfl)))
              clear hC HC
              go_wp2_with fail
              exact ⟨⟨i, o, d, by omega, rfl, rfl, HF.out.1, HF.out.2⟩, by simp [intOf]⟩
            · rw [show ((q + 1 : Nat) : Int) - 1 = (q : Int) by omega]
              have q0 : (0 : Int) ≤ (q : Int) := by omega
              by_cases hc0 : c = 0
              · have c1 : ¬ (0 : Int) < (c : Int) := by omega
                have c2 : decide ((0 : Int) < (c : Int)) = false := decide_eq_false c1
                have c3 : ¬ 0 < c := by omega
                have HF := Lib.hid (And.intro hC.wd (hC.done HTL.out (.inr hc0)))
                clear hC HC hc0
                go_wp2_with fail
                exact ⟨⟨i, o, d, by omega, rfl, rfl, HF.out.1, HF.out.2⟩, by simp [intOf]⟩
              · have c1 : (0 : Int) < (c : Int) := by omega
                have c2 : decide ((0 : Int) < (c : Int)) = true := decide_eq_true c1
                have c3 : 0 < c := by omega
                have q1 : (q : Int) < 6 := by omega
                have q2 : (q : Int).toNat = q := by omega
                obtain ⟨X, hX⟩ : ∃ X, nt o q = X := ⟨_, rfl⟩
                have g0 := nuA_get (l := o) (i := q) (by rw [hC.wd.len]; omega)
                rw [hX] at g0
                obtain ⟨SS, CC, hSS, hCC, e1, e2, e3⟩ := add_word (x := X) (y := c) (c := 0) (B := 18446744073709551616) (by rw [← hX]; exact hC.wd.lt q) hC.cB (by omega)
                have hcall : ∀ W, (callFunc 180 #[.int .u64 (X : Int), .int .u64 (c : Int), .int .u64 0]).run Tryz.prog W = .ok (.value (.tuple #[.int .u64 (SS : Int), .int .u64 (CC : Int)])) W := fun W => by
                  have := add64 X c 0 (by omega) W
                  rw [e1, e2] at this
                  exact this
                have HN := Lib.hid (hC.step (by omega) hSS hCC (by rw [hX]; exact e3))
                clear hC HC e1 e2 e3 hX hc0
                go_wp2_with fail
                rw [nuA_set]
                exact ⟨⟨q, CC, o.set q SS, d, by omega, rfl, rfl, rfl, HN.out⟩, by simp [intOf]⟩
        · rw [show ((j + 1 : Nat) : Int) - 1 = (j : Int) by omega]
          have hj : j < 4 := by omega
          have y0 : (0 : Int) ≤ (j : Int) := by omega
          have y1 : (j : Int) < 4 := by omega
          have y2 : (j : Int).toNat = j := by omega
          have w1 : IntKind.i64.wrap ((i : Int) + (j : Int)) = (i : Int) + (j : Int) := IntWalk.i64_in _ (by omega)
          by_cases hs : 4 < i + j
          · have z1 : (4 : Int) < (i : Int) + (j : Int) := by omega
            have HN := Lib.hid (HR.out.skip hj hs)
            go_wp2_with fail
            exact ⟨⟨j, c, o, dd, by omega, rfl, rfl, rfl, HN.out⟩, by simp [intOf]⟩
          · have z1 : ¬ (4 : Int) < (i : Int) + (j : Int) := by omega
            have hs2 : i + j ≤ 4 := by omega
            have w2 : IntKind.i64.wrap ((i : Int) + (j : Int) + 1) = (i : Int) + (j : Int) + 1 := IntWalk.i64_in _ (by omega)
            have w4 : (0 : Int) ≤ (i : Int) + (j : Int) + 1 := by omega
            have w5 : (i : Int) + (j : Int) + 1 < 6 := by omega
            have w6 : ((i : Int) + (j : Int) + 1).toNat = i + j + 1 := by omega
            obtain ⟨X, hX⟩ : ∃ X, nt a i = X := ⟨_, rfl⟩
            obtain ⟨Y, hY⟩ : ∃ Y, nt b j = Y := ⟨_, rfl⟩
            obtain ⟨O, hO⟩ : ∃ O, nt o (i + j + 1) = O := ⟨_, rfl⟩
            have g0 := nuA_get (l := a) (i := i) (by rw [ha.len]; exact hi)
            have g1 := nuA_get (l := b) (i := j) (by rw [hb.len]; exact hj)
            have g2 := nuA_get (l := o) (i := i + j + 1) (by rw [HR.out.wd.len]; omega)
            rw [hX] at g0
            rw [hY] at g1
            rw [hO] at g2
            have hXl : X < 18446744073709551616 := by rw [← hX]; exact ha.lt i
            have hYl : Y < 18446744073709551616 := by rw [← hY]; exact hb.lt j
            obtain ⟨HI, LO, S1, C1, S2, C2, e1, e2, e3, e4, e5, e6, hC1, hC2, hS2, hS1, hLO, hH, e7⟩ := row_word (x := X) (y := Y) (o := O) (c := c) (B := 18446744073709551616) hXl hYl (by rw [← hO]; exact HR.out.wd.lt _) HR.out.cB
            have HM := Lib.hid (one_call (fun W => Tryz.bits_Mul64 X Y hXl hYl W))
            rw [e1, e2] at HM
            have hcall1 : ∀ W, (callFunc 180 #[.int .u64 (O : Int), .int .u64 (LO : Int), .int .u64 0]).run Tryz.prog W = .ok (.value (.tuple #[.int .u64 (S1 : Int), .int .u64 (C1 : Int)])) W := fun W => by
              have := add64 O LO 0 (by omega) W
              rw [e3, e4] at this
              exact this
            have hcall2 : ∀ W, (callFunc 180 #[.int .u64 (S1 : Int), .int .u64 (c : Int), .int .u64 0]).run Tryz.prog W = .ok (.value (.tuple #[.int .u64 (S2 : Int), .int .u64 (C2 : Int)])) W := fun W => by
              have := add64 S1 c 0 (by omega) W
              rw [e5, e6] at this
              exact this
            have kH1 : IntKind.u64.wrap ((HI : Int) + (C1 : Int)) = (HI : Int) + (C1 : Int) := IntWalk.u64_in _ (by omega)
            have kH2 : IntKind.u64.wrap ((HI : Int) + (C1 : Int) + (C2 : Int)) = (HI : Int) + (C1 : Int) + (C2 : Int) := IntWalk.u64_in _ (by omega)
            have HN := Lib.hid (HR.out.step hj hs2 hS2 hH (by rw [hX, hY, hO]; exact e7))
            clear HR e1 e2 e3 e4 e5 e6 e7 hX hY hO hXl hYl hs
            go_wp2_with fail
            refine region_mixW [0, 0, 0, 0, 0, 0, 0, 0, 0, 0, 0, 0] (by kernel_rfl) (by kernel_rfl) (by kernel_rfl) ?_
            repeat (first | (refine wpM_quiet (fun K hK => ?_); go_simp; first | (refine hK _ ?_; clear hK K) | (apply Exists.intro; refine ⟨fun _ => ?_, hK _ ?_⟩; (first | (go_at_call 169; exact bq (HM.out _) (fun d => ⟨d, rfl⟩))); clear hK K)) | (refine wpM_special (fun K hK d => ?_); go_simp; refine hK _ _ (by first | exact lay_in w [_] _ | exact lay_in w [_, _] _ | exact lay_in w [_, _, _] _ | exact lay_in w [_, _, _, _] _ | exact lay_in w [_, _, _, _, _] _ | exact lay_in w [_, _, _, _, _, _] _) ?_; clear hK K))
            refine wpM_nil ?_
            intro d
            rw [lay_bw]
            go_wp2_with fail
            rw [nuA_set]
            obtain ⟨d3, e3⟩ := lay_fold w [.inr d, .inr dd] [.inl (.cells (nuA (o.set (i + j + 1) S2)) 203 (0, 0)), .inl (.cells #[.int .u64 0, .int .u64 0, .int .u64 0, .int .u64 0] 175 (0, 0)), .inl (.cells (nuA b) 175 (0, 0)), .inl (.cells (nuA a) 175 (0, 0))]
            change lay w [.inr d, .inr dd, .inl (.cells (nuA (o.set (i + j + 1) S2)) 203 (0, 0)), .inl (.cells #[.int .u64 0, .int .u64 0, .int .u64 0, .int .u64 0] 175 (0, 0)), .inl (.cells (nuA b) 175 (0, 0)), .inl (.cells (nuA a) 175 (0, 0))] = _ at e3
            rw [e3]
            exact ⟨⟨j, HI + C1 + C2, o.set (i + j + 1) S2, d3, by omega, by first | rfl | exact congrArg (Value.int .u64) (by omega), rfl, rfl, HN.out⟩, by simp [intOf]⟩
end Go.Proofs.YtkhhdpndcidmgaaGreat
/- What is missing from 1: the sums in nested form. -/
namespace Go.Proofs.YtkhhdpndcidmgaaGreat
open Go.RowKit

theorem b256_pow : 18446744073709551616 ^ 4 = b256 := by decide +kernel
theorem chain_next {y d m q u p r c : Nat} (hc : ChainN b256 y (d + 2) m u) (hu : u < b256) (hq : q = y / (d * (d + 1))) (h1 : p * b256 ≤ q * u) (h2 : q * u ≤ (p + 2) * b256) (hr : r < b256) (h3 : r + p = q + c * b256) (hc1 : c ≤ 1) : ChainN b256 y d (m + 1) r := by
  refine ⟨u, p, hc, by rw [← hq]; exact h1, by rw [← hq]; exact h2, ?_⟩
  have hp : p ≤ q := by
    have h4 : p * b256 ≤ q * b256 := Nat.le_trans h1 (Nat.mul_le_mul_left q (Nat.le_of_lt hu))
    exact Nat.le_of_mul_le_mul_right h4 b256_pos
  rw [← hq]
  have hc2 : c = 0 ∨ c = 1 := by omega
  rcases hc2 with rfl | rfl
  · omega
  · omega
set_option maxHeartbeats 4000000 in
set_option maxRecDepth 100000 in
theorem tr_less (x : List Nat) (odd : Nat) (hx : Wd 4 x) (ho : odd ≤ 1) (w : World) :
    Calls Tryz.prog 152 #[nuV x, .int .u64 (odd : Int)] w fun e w' => ∃ r d, e = .returned (nuV r) ∧ w' = bw w d ∧ Wd 4 r ∧ ∃ y, y * b256 ≤ val4 x * val4 x ∧ val4 x * val4 x ≤ (y + 2) * b256 ∧ ChainN b256 y (1 + odd) 34 (val4 r) := by
  refine lay_start ?_
  have HMx := Lib.hid (fun W => nm_mul x x hx hx W)
  unfold nuV at HMx ⊢
  go_enter Tryz.func152, Tryz.ntmps152
  go_wp2_with (go_at_call 151; refine (HMx.out _).mono ?_; rintro e w' ⟨y, d1, rfl, rfl, hy, hy1, hy2⟩)
  rw [b256_pow] at hy1 hy2
  have HY := Lib.hid (And.intro hy (And.intro hy1 hy2))
  clear hy hy1 hy2 HMx
  go_loopw [7, 8] (fun v7 _ wr => ∃ (k : Nat) (u : List Nat) (dd : Ext), k ≤ 34 ∧ v7 = .int .u64 (k : Int) ∧ wr = lay w [.inr dd, .inl (.cells #[.int .u64 (nt u 0 : Int), .int .u64 (nt u 1 : Int), .int .u64 (nt u 2 : Int), .int .u64 (nt u 3 : Int)] 175 (0, 0)), .inl (.cells #[.int .u64 (nt y 0 : Int), .int .u64 (nt y 1 : Int), .int .u64 (nt y 2 : Int), .int .u64 (nt y 3 : Int)] 175 (0, 0)), .inr d1, .inl (.cells #[.int .u64 0, .int .u64 0, .int .u64 0, .int .u64 0] 175 (0, 0)), .inl (.cells #[.int .u64 (nt x 0 : Int), .int .u64 (nt x 1 : Int), .int .u64 (nt x 2 : Int), .int .u64 (nt x 3 : Int)] 175 (0, 0))] ∧ Wd 4 u ∧ ChainN b256 (val4 y) (2 * k + 1 + odd) (34 - k) (val4 u)) (fun v7 _ _ => (intOf v7).toNat)
  case atStart => exact ⟨34, [0, 0, 0, 0], noExt _, Nat.le_refl _, rfl, (bw_noExt _).symm, ⟨rfl, fun i => by
    unfold nt
    match i with
    | 0 => decide
    | 1 => decide
    | 2 => decide
    | 3 => decide
    | i + 4 => simp⟩, by show val4 _ = 0; decide +kernel⟩
  case round =>
    obtain ⟨k, u, dd, hk, rfl, rfl, hu, hC⟩ := hrel
    have HC := Lib.hid (And.intro hu hC)
    clear hu hC
    by_cases hk0 : k = 0
    · subst hk0
      go_wp2_with fail
      obtain ⟨dz, ez⟩ := lay_all w [.inr dd, .inl (.cells #[.int .u64 (nt u 0 : Int), .int .u64 (nt u 1 : Int), .int .u64 (nt u 2 : Int), .int .u64 (nt u 3 : Int)] 175 (0, 0)), .inl (.cells #[.int .u64 (nt y 0 : Int), .int .u64 (nt y 1 : Int), .int .u64 (nt y 2 : Int), .int .u64 (nt y 3 : Int)] 175 (0, 0)), .inr d1, .inl (.cells #[.int .u64 (nt u 0 : Int), .int .u64 (nt u 1 : Int), .int .u64 (nt u 2 : Int), .int .u64 (nt u 3 : Int)] 175 (0, 0)), .inl (.cells #[.int .u64 (nt x 0 : Int), .int .u64 (nt x 1 : Int), .int .u64 (nt x 2 : Int), .int .u64 (nt x 3 : Int)] 175 (0, 0))]
      exact bodyPost_ret (v := .agg #[.int .u64 (nt u 0 : Int), .int .u64 (nt u 1 : Int), .int .u64 (nt u 2 : Int), .int .u64 (nt u 3 : Int)]) (by simp [results, Tryz.results152, go_sem]) rfl ⟨u, dz, rfl, ez, HC.out.1, val4 y, HY.out.2.1, HY.out.2.2, by have := HC.out.2; rwa [show 2 * 0 + 1 + odd = 1 + odd by omega] at this⟩
    · obtain ⟨j, hj⟩ : ∃ j, k = j + 1 := ⟨k - 1, by omega⟩
      obtain ⟨DV, hDV⟩ : ∃ DV : Nat, (2 * j + 1 + odd) * (2 * j + 1 + odd + 1) = DV := ⟨_, rfl⟩
      have hDVb : 2 ≤ DV ∧ DV ≤ 5000 := by
        rw [← hDV]
        constructor
        · exact dd_ge (by omega)
        · exact Nat.le_trans (Nat.mul_le_mul (show 2 * j + 1 + odd ≤ 68 by omega) (show 2 * j + 1 + odd + 1 ≤ 69 by omega)) (by decide)
      have hk1 : (0 : Int) < (k : Int) := by omega
      have hkj : (k : Int) - 1 = (j : Int) := by omega
      have kj : IntKind.u64.wrap (j : Int) = (j : Int) := IntWalk.u64_in _ (by omega)
      obtain ⟨A, hA⟩ : ∃ A : Int, 2 * (k : Int) = A := ⟨_, rfl⟩
      obtain ⟨A1, hA1⟩ : ∃ A1 : Int, A - 1 = A1 := ⟨_, rfl⟩
      obtain ⟨A2, hA2⟩ : ∃ A2 : Int, A1 + (odd : Int) = A2 := ⟨_, rfl⟩
      obtain ⟨A3, hA3⟩ : ∃ A3 : Int, A + (odd : Int) = A3 := ⟨_, rfl⟩
      have hA4 : A2 * A3 = (DV : Int) := by
        rw [← hDV, show A2 = ((2 * j + 1 + odd : Nat) : Int) by omega, show A3 = ((2 * j + 1 + odd + 1 : Nat) : Int) by omega]
        exact (Int.natCast_mul _ _).symm
      have kA : IntKind.u64.wrap A = A := IntWalk.u64_in _ (by omega)
      have kA1 : IntKind.u64.wrap A1 = A1 := IntWalk.u64_in _ (by omega)
      have kA2 : IntKind.u64.wrap A2 = A2 := IntWalk.u64_in _ (by omega)
      have kA3 : IntKind.u64.wrap A3 = A3 := IntWalk.u64_in _ (by omega)
      have kDV : IntKind.u64.wrap (DV : Int) = (DV : Int) := IntWalk.u64_in _ (by omega)
      have HD := Lib.hid (fun W => nm_div y 0 DV HY.out.1 (by omega) (by omega) W)
      unfold nuV at HD
      rw [show ((0 : Nat) : Int) = 0 from rfl] at HD
      have HJ := Lib.hid (And.intro hj hDV)
      clear hj hDV
      go_wp2_with (go_at_call 182; refine (HD.out _).mono ?_; rintro e w' ⟨q, dq, rfl, rfl, hq, hq2⟩)
      have HQ := Lib.hid (And.intro hq hq2)
      clear hq hq2 HD
      have HM := Lib.hid (fun W => nm_mul q u HQ.out.1 HC.out.1 W)
      unfold nuV at HM
      refine region_mixS 5 [(0, 0), (1, 0), (2, 0), (3, 1), (4, 1), (5, 3)] (by kernel_rfl) (by kernel_rfl) (by kernel_rfl) rfl ?_
      repeat (first | (refine wpMS_pure rfl (fun K hK => ?_); go_simp; refine hK _ ?_; clear hK K) | (refine wpMS_quiet rfl (fun K hK => ?_); go_simp; first | (refine hK _ ?_; clear hK K) | (apply Exists.intro; refine ⟨fun _ => ?_, hK _ ?_⟩; (first | fail); clear hK K)))
      refine wpMS_special rfl (fun K hK e1 => ?_)
      rw [lay_bw]
      go_simp
      refine (HM.out _).mono ?_
      rintro e w' ⟨p, dp, rfl, rfl, hp, hp1, hp2⟩
      rw [b256_pow] at hp1 hp2
      have HP := Lib.hid (And.intro hp (And.intro hp1 hp2))
      clear hp hp1 hp2 HM
      refine ⟨_, rfl, hK _ _ (lay_in w [.inr dp, .inr e1] _) ?_⟩
      clear hK K
      have HS := Lib.hid (fun W => nm_sub q p HQ.out.1 HP.out.1 W)
      unfold nuV at HS
      refine wpMS_special rfl (fun K hK e2 => ?_)
      rw [lay_bw, lay_bw]
      go_simp
      refine (HS.out _).mono ?_
      rintro e w' ⟨r, dr, rfl, rfl, hr, c, hc1, hr2⟩
      rw [b256_pow] at hr2
      have HR := Lib.hid (And.intro hr (And.intro hc1 hr2))
      clear hr hr2 HS hc1
      refine ⟨_, rfl, hK _ _ (lay_in w [.inr dr, .inr e2, .inr dp, .inr e1] _) ?_⟩
      clear hK K
      refine wpMS_store rfl (fun K hK e3 => ?_)
      rw [lay_bw, lay_bw]
      go_simp
      refine hK _ _ ?_
      clear hK K
      refine wpMS_nil (fun e4 => ?_)
      rw [lay_bw]
      obtain ⟨d9, e9⟩ := lay_fold w [.inr e4, .inr e3, .inr dr, .inr e2, .inr dp, .inr e1, .inl (.cells #[.int .u64 (nt q 0 : Int), .int .u64 (nt q 1 : Int), .int .u64 (nt q 2 : Int), .int .u64 (nt q 3 : Int)] 175 (0, 0)), .inr dq, .inr dd] [.inl (.cells #[.int .u64 (nt r 0 : Int), .int .u64 (nt r 1 : Int), .int .u64 (nt r 2 : Int), .int .u64 (nt r 3 : Int)] 175 (0, 0)), .inl (.cells #[.int .u64 (nt y 0 : Int), .int .u64 (nt y 1 : Int), .int .u64 (nt y 2 : Int), .int .u64 (nt y 3 : Int)] 175 (0, 0)), .inr d1, .inl (.cells #[.int .u64 0, .int .u64 0, .int .u64 0, .int .u64 0] 175 (0, 0)), .inl (.cells #[.int .u64 (nt x 0 : Int), .int .u64 (nt x 1 : Int), .int .u64 (nt x 2 : Int), .int .u64 (nt x 3 : Int)] 175 (0, 0))]
      change lay w [.inr e4, .inr e3, .inr dr, .inr e2, .inr dp, .inr e1, .inl (.cells #[.int .u64 (nt q 0 : Int), .int .u64 (nt q 1 : Int), .int .u64 (nt q 2 : Int), .int .u64 (nt q 3 : Int)] 175 (0, 0)), .inr dq, .inr dd, .inl (.cells #[.int .u64 (nt r 0 : Int), .int .u64 (nt r 1 : Int), .int .u64 (nt r 2 : Int), .int .u64 (nt r 3 : Int)] 175 (0, 0)), .inl (.cells #[.int .u64 (nt y 0 : Int), .int .u64 (nt y 1 : Int), .int .u64 (nt y 2 : Int), .int .u64 (nt y 3 : Int)] 175 (0, 0)), .inr d1, .inl (.cells #[.int .u64 0, .int .u64 0, .int .u64 0, .int .u64 0] 175 (0, 0)), .inl (.cells #[.int .u64 (nt x 0 : Int), .int .u64 (nt x 1 : Int), .int .u64 (nt x 2 : Int), .int .u64 (nt x 3 : Int)] 175 (0, 0))] = _ at e9
      rw [e9]
      clear e9
      have HF : Hid (Wd 4 r ∧ ChainN b256 (val4 y) (2 * j + 1 + odd) (34 - j) (val4 r)) := by
        refine Lib.hid ⟨HR.out.1, ?_⟩
        have hcc := HC.out.2
        have hq2 := HQ.out.2
        rw [HJ.out.1] at hcc hk
        rw [Nat.zero_mul, Nat.zero_add, ← HJ.out.2] at hq2
        have := chain_next (d := 2 * j + 1 + odd) (by rw [show 2 * j + 1 + odd + 2 = 2 * (j + 1) + 1 + odd by omega]; exact hcc) (by rw [← b256_pow]; exact val4_lt HC.out.1) hq2 HP.out.2.1 HP.out.2.2 (by rw [← b256_pow]; exact val4_lt HR.out.1) HR.out.2.2 HR.out.2.1
        rwa [show 34 - (j + 1) + 1 = 34 - j by omega] at this
      have HJ2 := Lib.hid (show j ≤ 34 by have := HJ.out.1; omega)
      have HJ3 := HJ.out.1
      go_wp2_with fail
      go_roundw
      case rel => exact ⟨j, r, d9, HJ2.out, rfl, rfl, HF.out.1, HF.out.2⟩
      case measure => simp [intOf]; omega
end Go.Proofs.YtkhhdpndcidmgaaGreat
