/- Contracts and plain laws, several texts in one: NmP; Nm4 -/
import Derived.Test.YtkhhdpndcidmgaaGreatProg
import Derived.WalkKit
import Derived.WalkSpells
import Derived.WalkLawsBesides
import Derived.Lib.Hide
import Derived.BigQuiet
import Derived.Laws.Cover3
import Derived.Test.YtkhhdpndcidmgaaGreatTAE
import Derived.Test.YtkhhdpndcidmgaaGreatTAF
import Derived.Test.YtkhhdpndcidmgaaGreatTAI
import Derived.Test.YtkhhdpndcidmgaaGreatTAL
/- Products of numbers of four words, row by row: the plain law. No walk. -/
namespace Go.Proofs.YtkhhdpndcidmgaaGreat
open Go.RowKit

theorem valB_set {B x : Nat} : ∀ {l : List Nat} {p : Nat}, p < l.length → valB B (l.set p x) + nt l p * B ^ (l.length - p - 1) = valB B l + x * B ^ (l.length - p - 1)
  | [], p, h => absurd h (Nat.not_lt_zero _)
  | y :: l, 0, _ => by
    simp only [List.set_cons_zero, valB, nt, List.getD_cons_zero, List.length_cons]
    rw [show l.length + 1 - 0 - 1 = l.length by omega]
    omega
  | y :: l, p + 1, h => by
    have ih := valB_set (B := B) (x := x) (l := l) (p := p) (by simpa using h)
    simp only [List.set_cons_succ, valB, nt, List.getD_cons_succ, List.length_cons, List.length_set] at ih ⊢
    rw [show l.length + 1 - (p + 1) - 1 = l.length - p - 1 by omega]
    omega
def rowM (B : Nat) (b : List Nat) (i : Nat) : Nat → Nat
  | 0 => 0
  | m + 1 => (if i + (3 - m) ≤ 4 then nt b (3 - m) * B ^ (4 - i - (3 - m)) else 0) + rowM B b i m
def sumR (B : Nat) (a b : List Nat) : Nat → Nat
  | 0 => 0
  | m + 1 => nt a (3 - m) * rowM B b (3 - m) 4 + sumR B a b m
theorem sumR_le {B : Nat} {a b : List Nat} {m : Nat} : ∀ {n : Nat}, m ≤ n → sumR B a b m ≤ sumR B a b n
  | 0, h => by
    have : m = 0 := by omega
    subst this; exact Nat.le_refl _
  | n + 1, h => by
    by_cases e : m = n + 1
    · subst e; exact Nat.le_refl _
    · have := sumR_le (B := B) (a := a) (b := b) (m := m) (n := n) (by omega)
      show sumR B a b m ≤ nt a (3 - n) * rowM B b (3 - n) 4 + sumR B a b n
      omega
theorem sumR_all {B : Nat} {a b : List Nat} (ha : a.length = 4) (hb : b.length = 4) : sumR B a b 4 * B ^ 2 + (nt a 2 * nt b 3 * B + nt a 3 * nt b 2 * B + nt a 3 * nt b 3) = valB B a * valB B b := by
  match a, b, ha, hb with
  | [a0, a1, a2, a3], [b0, b1, b2, b3], _, _ =>
    simp [sumR, rowM, valB, nt]
    grind
theorem sumR_ok {B : Nat} {a b : List Nat} (ha : a.length = 4) (hb : b.length = 4) (la : ∀ i, nt a i < B) (lb : ∀ i, nt b i < B) : sumR B a b 4 * B ^ 2 ≤ valB B a * valB B b ∧ valB B a * valB B b ≤ sumR B a b 4 * B ^ 2 + 3 * B ^ 3 := by
  have h := sumR_all (B := B) ha hb
  have m : ∀ i j, nt a i * nt b j ≤ B * B := fun i j => Nat.mul_le_mul (Nat.le_of_lt (la i)) (Nat.le_of_lt (lb j))
  have h1 := Nat.mul_le_mul_right B (m 2 3)
  have h2 := Nat.mul_le_mul_right B (m 3 2)
  have h3 := m 3 3
  have hB : 0 < B := Nat.lt_of_le_of_lt (Nat.zero_le _) (la 0)
  have h4 : B * B ≤ B * B * B := Nat.le_mul_of_pos_right _ hB
  have e : B ^ 3 = B * B * B := by grind
  rw [← h, e]
  generalize B * B * B = C at *
  constructor <;> omega
theorem sumR_lt {B : Nat} {a b : List Nat} (ha : a.length = 4) (hb : b.length = 4) (la : ∀ x ∈ a, x < B) (lb : ∀ x ∈ b, x < B) (hB : 0 < B) : sumR B a b 4 < B ^ 6 := by
  have h := sumR_all (B := B) ha hb
  have h1 := valB_lt hB la
  have h2 := valB_lt hB lb
  rw [ha] at h1
  rw [hb] at h2
  have h3 : valB B a * valB B b < B ^ 4 * B ^ 4 := Nat.mul_lt_mul'' h1 h2
  have h4 : B ^ 4 * B ^ 4 = B ^ 6 * B ^ 2 := by rw [← Nat.pow_add, ← Nat.pow_add]
  have h5 : sumR B a b 4 * B ^ 2 < B ^ 6 * B ^ 2 := by rw [← h4]; omega
  exact Nat.lt_of_mul_lt_mul_right h5
theorem row_word {B x y o c : Nat} (hx : x < B) (hy : y < B) (ho : o < B) (hc : c < B) : ∃ hi lo s1 c1 s2 c2 : Nat, x * y / B = hi ∧ x * y % B = lo ∧ (o + lo + 0) % B = s1 ∧ (o + lo + 0) / B = c1 ∧ (s1 + c + 0) % B = s2 ∧ (s1 + c + 0) / B = c2 ∧ c1 ≤ 1 ∧ c2 ≤ 1 ∧ s2 < B ∧ s1 < B ∧ lo < B ∧ hi + c1 + c2 < B ∧ s2 + (hi + c1 + c2) * B = o + x * y + c := by
  have hB : 0 < B := by omega
  have h1 := Nat.div_add_mod (x * y) B
  have h2 := Nat.mod_lt (x * y) hB
  obtain ⟨s1, c1, hs1, hc1, e1, e2, e3⟩ := add_word (x := o) (y := x * y % B) (c := 0) ho h2 (by omega)
  obtain ⟨s2, c2, hs2, hc2, e4, e5, e6⟩ := add_word (x := s1) (y := c) (c := 0) hs1 hc (by omega)
  have e7 : s2 + (x * y / B + c1 + c2) * B = o + x * y + c := by
    rw [Nat.add_mul, Nat.add_mul, Nat.mul_comm (x * y / B) B]
    omega
  refine ⟨_, _, s1, c1, s2, c2, rfl, rfl, e1, e2, e4, e5, hc1, hc2, hs2, hs1, h2, ?_, e7⟩
  have h8 : x * y + x + y + 1 ≤ B * B := by
    have := Nat.mul_le_mul (show x + 1 ≤ B by omega) (show y + 1 ≤ B by omega)
    rw [Nat.succ_mul, Nat.mul_succ] at this
    omega
  have h9 : (x * y / B + c1 + c2) * B < B * B := by
    by_cases hz : x + y + 2 ≤ B + B
    · have : x * y ≤ (B - 1) * (B - 1) := Nat.mul_le_mul (by omega) (by omega)
      have h10 : (B - 1) * (B - 1) + (B - 1) + (B - 1) + 1 = B * B := by
        obtain ⟨k, rfl⟩ : ∃ k, B = k + 1 := ⟨B - 1, by omega⟩
        simp only [Nat.add_sub_cancel]
        grind
      omega
    · omega
  exact Nat.lt_of_mul_lt_mul_right h9
structure RowI (a b : List Nat) (i V0 : Nat) (o : List Nat) (k c : Nat) : Prop where
  wd : Wd 6 o
  cB : c < 18446744073709551616
  c0 : 5 < i + k → c = 0
  eq : valB 18446744073709551616 o + c * 18446744073709551616 ^ (5 - (i + k)) = V0 + nt a i * rowM 18446744073709551616 b i (4 - k)
theorem RowI.start {a b o : List Nat} {i : Nat} (h : Wd 6 o) : RowI a b i (valB 18446744073709551616 o) o 4 0 := ⟨h, by decide, fun _ => rfl, by simp [rowM]⟩
theorem RowI.skip {a b o : List Nat} {i V0 j c : Nat} (h : RowI a b i V0 o (j + 1) c) (hj : j < 4) (hs : 4 < i + j) : RowI a b i V0 o j c := by
  have hc := h.c0 (by omega)
  subst hc
  refine ⟨h.wd, by decide, fun _ => rfl, ?_⟩
  have he := h.eq
  rw [show 4 - j = 4 - (j + 1) + 1 by omega]
  unfold rowM
  rw [show 3 - (4 - (j + 1)) = j by omega, if_neg (by omega)]
  simpa using he
theorem RowI.step {a b o : List Nat} {i V0 j c s c' : Nat} (h : RowI a b i V0 o (j + 1) c) (hj : j < 4) (hs : i + j ≤ 4) (hsB : s < 18446744073709551616) (hc : c' < 18446744073709551616) (e : s + c' * 18446744073709551616 = nt o (i + j + 1) + nt a i * nt b j + c) : RowI a b i V0 (o.set (i + j + 1) s) j c' := by
  refine ⟨h.wd.set (by omega) hsB, hc, fun hh => by omega, ?_⟩
  have he := h.eq
  have hset := valB_set (B := 18446744073709551616) (x := s) (l := o) (p := i + j + 1) (by rw [h.wd.len]; omega)
  rw [h.wd.len] at hset
  rw [show 4 - j = 4 - (j + 1) + 1 by omega]
  unfold rowM
  rw [show 3 - (4 - (j + 1)) = j by omega, if_pos hs]
  rw [show 5 - (i + (j + 1)) = 4 - i - j by omega] at he
  rw [show 6 - (i + j + 1) - 1 = 4 - i - j by omega] at hset
  have hp : 18446744073709551616 ^ (5 - (i + j)) = 18446744073709551616 ^ (4 - i - j) * 18446744073709551616 := by rw [← Nat.pow_succ]; congr 1; omega
  rw [hp]
  generalize 18446744073709551616 ^ (4 - i - j) = P at *
  generalize rowM _ b i (4 - (j + 1)) = R at *
  generalize (18446744073709551616 : Nat) = B at *
  have e2 : (s + c' * B) * P = (nt o (i + j + 1) + nt a i * nt b j + c) * P := by rw [e]
  grind
structure CarI (T : Nat) (o : List Nat) (q c : Nat) : Prop where
  wd : Wd 6 o
  cB : c < 18446744073709551616
  eq : valB 18446744073709551616 o + c * 18446744073709551616 ^ (6 - q) = T
theorem RowI.car {a b o : List Nat} {i V0 c : Nat} (h : RowI a b i V0 o 0 c) (hi : i < 4) : CarI (V0 + nt a i * rowM 18446744073709551616 b i 4) o (i + 1) c := ⟨h.wd, h.cB, by
  have he := h.eq
  rw [show 5 - (i + 0) = 6 - (i + 1) by omega] at he
  exact he⟩
theorem CarI.step {T k c s c' : Nat} {o : List Nat} (h : CarI T o (k + 1) c) (hk : k < 4) (hs : s < 18446744073709551616) (hc : c' ≤ 1) (e : s + c' * 18446744073709551616 = nt o k + c + 0) : CarI T (o.set k s) k c' := by
  refine ⟨h.wd.set (by omega) hs, by omega, ?_⟩
  have he := h.eq
  have hset := valB_set (B := 18446744073709551616) (x := s) (l := o) (p := k) (by rw [h.wd.len]; omega)
  rw [h.wd.len] at hset
  rw [show 6 - (k + 1) = 6 - k - 1 by omega] at he
  have hp : 18446744073709551616 ^ (6 - k) = 18446744073709551616 ^ (6 - k - 1) * 18446744073709551616 := by rw [← Nat.pow_succ]; congr 1; omega
  rw [hp]
  generalize 18446744073709551616 ^ (6 - k - 1) = P at *
  generalize (18446744073709551616 : Nat) = B at *
  have e2 : (s + c' * B) * P = (nt o k + c + 0) * P := by rw [e]
  grind
theorem CarI.done {T q c : Nat} {o : List Nat} (h : CarI T o q c) (hT : T < 18446744073709551616 ^ 6) (hq : q = 0 ∨ c = 0) : valB 18446744073709551616 o = T := by
  have he := h.eq
  rcases hq with rfl | rfl
  · have : c = 0 := by
      rcases Nat.eq_zero_or_pos c with h0 | h0
      · exact h0
      · have h1 : 1 * 18446744073709551616 ^ (6 - 0) ≤ c * 18446744073709551616 ^ (6 - 0) := Nat.mul_le_mul_right _ h0
        rw [show 6 - 0 = 6 by rfl] at *
        omega
    subst this
    simpa using he
  · simpa using he
theorem take4 {o : List Nat} (h : Wd 6 o) : Wd 4 (o.take 4) ∧ val4 (o.take 4) = valB 18446744073709551616 o / 18446744073709551616 ^ 2 ∧ ∀ i, i < 4 → nt (o.take 4) i = nt o i := by
  have hl := h.len
  match o, hl with
  | [x0, x1, x2, x3, x4, x5], _ =>
    have q : ∀ i, i < 4 → nt [x0, x1, x2, x3] i = nt [x0, x1, x2, x3, x4, x5] i := fun i hi => by
      match i, hi with
      | 0, _ => rfl
      | 1, _ => rfl
      | 2, _ => rfl
      | 3, _ => rfl
    refine ⟨⟨rfl, fun i => ?_⟩, ?_, q⟩
    · by_cases hi : i < 4
      · rw [show List.take 4 [x0, x1, x2, x3, x4, x5] = [x0, x1, x2, x3] from rfl, q i hi]; exact h.lt i
      · unfold nt
        simp [List.getD, show ¬ i < 4 from hi]
    · have h4 := h.lt 4
      have h5 := h.lt 5
      change x4 < _ at h4
      change x5 < _ at h5
      show valB _ [x0, x1, x2, x3] = _
      generalize hB : (18446744073709551616 : Nat) = B at *
      have e : valB B [x0, x1, x2, x3, x4, x5] = (x4 * B + x5) + B ^ 2 * valB B [x0, x1, x2, x3] := by
        simp [valB]
        grind
      have hlt : x4 * B + x5 < B ^ 2 := by
        have : (x4 + 1) * B ≤ B * B := Nat.mul_le_mul_right _ h4
        rw [Nat.succ_mul] at this
        rw [show B ^ 2 = B * B by grind]
        omega
      rw [e, Nat.add_mul_div_left _ _ (by omega), Nat.div_eq_of_lt hlt, Nat.zero_add]
theorem mul_done {a b o : List Nat} (ha : Wd 4 a) (hb : Wd 4 b) (ho : Wd 6 o) (h : valB 18446744073709551616 o = sumR 18446744073709551616 a b 4) : val4 (o.take 4) * 18446744073709551616 ^ 4 ≤ val4 a * val4 b ∧ val4 a * val4 b ≤ (val4 (o.take 4) + 2) * 18446744073709551616 ^ 4 := by
  obtain ⟨h1, h2⟩ := sumR_ok (B := 18446744073709551616) ha.len hb.len ha.lt hb.lt
  rw [(take4 ho).2.1, h]
  unfold val4
  have h3 := Nat.div_add_mod (sumR 18446744073709551616 a b 4) (18446744073709551616 ^ 2)
  have h4 := Nat.mod_lt (sumR 18446744073709551616 a b 4) (show 0 < 18446744073709551616 ^ 2 by decide)
  generalize sumR 18446744073709551616 a b 4 / 18446744073709551616 ^ 2 = Q at *
  generalize sumR 18446744073709551616 a b 4 % 18446744073709551616 ^ 2 = M at *
  generalize valB 18446744073709551616 a * valB 18446744073709551616 b = N at *
  rw [← h3] at h1 h2
  have hB : 3 ≤ (18446744073709551616 : Nat) := by decide
  generalize (18446744073709551616 : Nat) = B at *
  have e4 : B ^ 4 = B ^ 2 * B ^ 2 := by rw [← Nat.pow_add]
  have e3 : 3 * B ^ 3 ≤ B ^ 4 := by
    rw [show B ^ 4 = B * B ^ 3 by rw [← Nat.pow_succ']]
    exact Nat.mul_le_mul_right _ hB
  have h5 : M * B ^ 2 ≤ B ^ 4 := by rw [e4]; exact Nat.mul_le_mul_right _ (Nat.le_of_lt h4)
  have e5 : (B ^ 2 * Q + M) * B ^ 2 = Q * B ^ 4 + M * B ^ 2 := by rw [e4]; grind
  rw [e5] at h1 h2
  rw [Nat.add_mul]
  generalize Q * B ^ 4 = X at *
  generalize M * B ^ 2 = Y at *
  generalize B ^ 3 = Z at *
  generalize B ^ 4 = U at *
  constructor <;> omega
end Go.Proofs.YtkhhdpndcidmgaaGreat
/- Products of numbers of four words: the walk. -/
namespace Go.Proofs.YtkhhdpndcidmgaaGreat
open Go.RowKit

theorem zero6 : Wd 6 [0, 0, 0, 0, 0, 0] ∧ valB 18446744073709551616 [0, 0, 0, 0, 0, 0] = 0 := ⟨⟨rfl, fun i => by
  unfold nt
  match i with
  | 0 => decide
  | 1 => decide
  | 2 => decide
  | 3 => decide
  | 4 => decide
  | 5 => decide
  | i + 6 => simp⟩, by simp [valB]⟩
theorem zero6_cells : (#[.int .u64 0, .int .u64 0, .int .u64 0, .int .u64 0, .int .u64 0, .int .u64 0] : Array Value) = nuA [0, 0, 0, 0, 0, 0] := rfl
theorem one_call {P : Program} {f : FuncId} {args : Array Value} {v : Value} (h : ∀ W, Calls P f args W fun e w' => e = .returned v ∧ w' = W) (W : World) : Calls P f args W fun e w' => e = .returned v ∧ ∃ d, w' = bw W d :=
  (h W).mono fun _ _ ⟨h1, h2⟩ => ⟨h1, noExt _, by rw [bw_noExt]; exact h2⟩
set_option maxHeartbeats 4000000 in
set_option maxRecDepth 100000 in
theorem nm_mul (a b : List Nat) (ha : Wd 4 a) (hb : Wd 4 b) (w : World) :
    Calls Tryz.prog 151 #[nuV a, nuV b] w fun e w' => ∃ r d, e = .returned (nuV r) ∧ w' = bw w d ∧ Wd 4 r ∧ val4 r * 18446744073709551616 ^ 4 ≤ val4 a * val4 b ∧ val4 a * val4 b ≤ (val4 r + 2) * 18446744073709551616 ^ 4 := by
  refine lay_start ?_
  have hlt := sumR_lt ha.len hb.len ha.mem hb.mem (by decide)
  have HLT := Lib.hid hlt
  clear hlt
  unfold nuV
  go_enter Tryz.func151, Tryz.ntmps151
  go_wp2_with fail
  rw [← nuA_four ha.len, ← nuA_four hb.len, zero6_cells]
  go_loopw [6, 7, 8, 9, 10, 11, 12, 13] (fun v6 _ _ _ _ _ _ _ wr => ∃ (k : Nat) (o : List Nat) (d : Ext), k ≤ 4 ∧ v6 = .int .i64 ((k : Int) - 1) ∧ wr = lay w [.inr d, .inl (.cells (nuA o) 203 (0, 0)), .inl (.cells #[.int .u64 0, .int .u64 0, .int .u64 0, .int .u64 0] 175 (0, 0)), .inl (.cells (nuA b) 175 (0, 0)), .inl (.cells (nuA a) 175 (0, 0))] ∧ Wd 6 o ∧ valB 18446744073709551616 o = sumR 18446744073709551616 a b (4 - k)) (fun v6 _ _ _ _ _ _ _ _ => (intOf v6 + 1).toNat)
  case atStart => exact ⟨4, _, noExt _, Nat.le_refl _, rfl, (bw_noExt _).symm, zero6.1, zero6.2⟩
  case round =>
    obtain ⟨k, o, d, hk, rfl, rfl, ho, hV⟩ := hrel
    have HO := Lib.hid (And.intro ho hV)
    clear ho hV
    rcases k with _ | i
    · rw [show ((0 : Nat) : Int) - 1 = -1 from rfl]
      have hT := take4 HO.out.1
      have g0 := nuA_get (l := o) (i := 0) (by rw [HO.out.1.len]; decide)
      have g1 := nuA_get (l := o) (i := 1) (by rw [HO.out.1.len]; decide)
      have g2 := nuA_get (l := o) (i := 2) (by rw [HO.out.1.len]; decide)
      have g3 := nuA_get (l := o) (i := 3) (by rw [HO.out.1.len]; decide)
      rw [← hT.2.2 0 (by decide)] at g0
      rw [← hT.2.2 1 (by decide)] at g1
      rw [← hT.2.2 2 (by decide)] at g2
      rw [← hT.2.2 3 (by decide)] at g3
      have HE := Lib.hid (And.intro hT.1 (mul_done ha hb HO.out.1 HO.out.2))
      have hat : ∀ W, (Instr.arrayAt 175 (.slice (some ⟨posn w [1, 1, 1], 0, none⟩) 4 6)).run Tryz.prog W = .ok (.pointer (some ⟨posn w [1, 1, 1], 0, none⟩)) W := fun W => run_arrayAt W 175 _ 4 _ 4 6 Tryz.underlying175 (by decide)
      clear hT
      generalize o.take 4 = r at *
      go_wp2_with fail
      obtain ⟨dz, ez⟩ := lay_all w [.inr d, .inl (.cells (nuA o) 203 (0, 0)), .inl (.cells #[.int .u64 (nt r 0 : Int), .int .u64 (nt r 1 : Int), .int .u64 (nt r 2 : Int), .int .u64 (nt r 3 : Int)] 175 (0, 0)), .inl (.cells (nuA b) 175 (0, 0)), .inl (.cells (nuA a) 175 (0, 0))]
      exact bodyPost_ret (v := .agg #[.int .u64 (nt r 0 : Int), .int .u64 (nt r 1 : Int), .int .u64 (nt r 2 : Int), .int .u64 (nt r 3 : Int)]) (by simp [results, Tryz.results151, go_sem]) rfl ⟨r, dz, rfl, ez, HE.out.1, HE.out.2⟩
    · rw [show ((i + 1 : Nat) : Int) - 1 = (i : Int) by omega]
      have hi : i < 4 := by omega
      have x0 : (0 : Int) ≤ (i : Int) := by omega
      have x1 : (i : Int) < 4 := by omega
      have x2 : (i : Int).toNat = i := by omega
      go_wp2_with fail
      go_loopw [7, 8, 9, 10, 11, 12] (fun v7 v8 _ _ _ _ wr => ∃ (k c : Nat) (o : List Nat) (d : Ext), k ≤ 4 ∧ v7 = .int .u64 (c : Int) ∧ v8 = .int .i64 ((k : Int) - 1) ∧ wr = lay w [.inr d, .inl (.cells (nuA o) 203 (0, 0)), .inl (.cells #[.int .u64 0, .int .u64 0, .int .u64 0, .int .u64 0] 175 (0, 0)), .inl (.cells (nuA b) 175 (0, 0)), .inl (.cells (nuA a) 175 (0, 0))] ∧ RowI a b i (sumR 18446744073709551616 a b (3 - i)) o k c) (fun _ v8 _ _ _ _ _ => (intOf v8 + 1).toNat)
      case atStart =>
        have hs := RowI.start (a := a) (b := b) (i := i) HO.out.1
        rw [HO.out.2, show 4 - (i + 1) = 3 - i by omega] at hs
        exact ⟨4, 0, o, d, Nat.le_refl _, rfl, rfl, rfl, hs⟩
      case round =>
        obtain ⟨k, c, o, dd, hk, rfl, rfl, rfl, hR⟩ := hrel
        have HR := Lib.hid hR
        clear hR HO
        rcases k with _ | j
        · rw [show ((0 : Nat) : Int) - 1 = -1 from rfl]
          have HC := Lib.hid (HR.out.car hi)
          clear HR
          rw [show sumR 18446744073709551616 a b (3 - i) + nt a i * rowM 18446744073709551616 b i 4 = sumR 18446744073709551616 a b (4 - i) by
            rw [show 4 - i = 3 - i + 1 by omega]
            show _ = nt a (3 - (3 - i)) * rowM 18446744073709551616 b (3 - (3 - i)) 4 + sumR 18446744073709551616 a b (3 - i)
            rw [show 3 - (3 - i) = i by omega, Nat.add_comm]] at HC
          have hTl : sumR 18446744073709551616 a b (4 - i) < 18446744073709551616 ^ 6 := Nat.lt_of_le_of_lt (sumR_le (by omega)) HLT.out
          have HTL := Lib.hid hTl
          clear hTl
          go_wp2_with fail
          go_loopw [7, 13] (fun v7 v13 wr => ∃ (q c : Nat) (o : List Nat) (d : Ext), q ≤ i + 1 ∧ v7 = .int .u64 (c : Int) ∧ v13 = .int .i64 ((q : Int) - 1) ∧ wr = lay w [.inr d, .inl (.cells (nuA o) 203 (0, 0)), .inl (.cells #[.int .u64 0, .int .u64 0, .int .u64 0, .int .u64 0] 175 (0, 0)), .inl (.cells (nuA b) 175 (0, 0)), .inl (.cells (nuA a) 175 (0, 0))] ∧ CarI (sumR 18446744073709551616 a b (4 - i)) o q c) (fun _ v13 _ => (intOf v13 + 1).toNat)
          case atStart => exact ⟨i + 1, c, o, dd, Nat.le_refl _, rfl, by first | rfl | exact congrArg (Value.int .i64) (by omega), rfl, HC.out⟩
          case round =>
            obtain ⟨q, c, o, d, hq, rfl, rfl, rfl, hC⟩ := hrel
            have HC := Lib.hid hC
            rcases q with _ | q
            · rw [show ((0 : Nat) : Int) - 1 = -1 from rfl]
              have HF := Lib.hid (And.intro hC.wd (hC.done HTL.out (.inl rfl)))
              clear hC HC
              go_wp2_with fail
              exact ⟨⟨i, o, d, by omega, rfl, rfl, HF.out.1, HF.out.2⟩, by simp [intOf]⟩
            · rw [show ((q + 1 : Nat) : Int) - 1 = (q : Int) by omega]
              have q0 : (0 : Int) ≤ (q : Int) := by omega
              by_cases hc0 : c = 0
              · have c1 : ¬ (0 : Int) < (c : Int) := by omega
                have c2 : decide ((0 : Int) < (c : Int)) = false := decide_eq_false c1
                have c3 : ¬ 0 < c := by omega
                have HF := Lib.hid (And.intro hC.wd (hC.done HTL.out (.inr hc0)))
                clear hC HC hc0
                go_wp2_with fail
                exact ⟨⟨i, o, d, by omega, rfl, rfl, HF.out.1, HF.out.2⟩, by simp [intOf]⟩
              · have c1 : (0 : Int) < (c : Int) := by omega
                have c2 : decide ((0 : Int) < (c : Int)) = true := decide_eq_true c1
                have c3 : 0 < c := by omega
                have q1 : (q : Int) < 6 := by omega
                have q2 : (q : Int).toNat = q := by omega
                obtain ⟨X, hX⟩ : ∃ X, nt o q = X := ⟨_, rfl⟩
                have g0 := nuA_get (l := o) (i := q) (by rw [hC.wd.len]; omega)
                rw [hX] at g0
                obtain ⟨SS, CC, hSS, hCC, e1, e2, e3⟩ := add_word (x := X) (y := c) (c := 0) (B := 18446744073709551616) (by rw [← hX]; exact hC.wd.lt q) hC.cB (by omega)
                have hcall : ∀ W, (callFunc 180 #[.int .u64 (X : Int), .int .u64 (c : Int), .int .u64 0]).run Tryz.prog W = .ok (.value (.tuple #[.int .u64 (SS : Int), .int .u64 (CC : Int)])) W := fun W => by
                  have := add64 X c 0 (by omega) W
                  rw [e1, e2] at this
                  exact this
                have HN := Lib.hid (hC.step (by omega) hSS hCC (by rw [hX]; exact e3))
                clear hC HC e1 e2 e3 hX hc0
                go_wp2_with fail
                rw [nuA_set]
                exact ⟨⟨q, CC, o.set q SS, d, by omega, rfl, rfl, rfl, HN.out⟩, by simp [intOf]⟩
        · rw [show ((j + 1 : Nat) : Int) - 1 = (j : Int) by omega]
          have hj : j < 4 := by omega
          have y0 : (0 : Int) ≤ (j : Int) := by omega
          have y1 : (j : Int) < 4 := by omega
          have y2 : (j : Int).toNat = j := by omega
          have w1 : IntKind.i64.wrap ((i : Int) + (j : Int)) = (i : Int) + (j : Int) := IntWalk.i64_in _ (by omega)
          by_cases hs : 4 < i + j
          · have z1 : (4 : Int) < (i : Int) + (j : Int) := by omega
            have HN := Lib.hid (HR.out.skip hj hs)
            go_wp2_with fail
            exact ⟨⟨j, c, o, dd, by omega, rfl, rfl, rfl, HN.out⟩, by simp [intOf]⟩
          · have z1 : ¬ (4 : Int) < (i : Int) + (j : Int) := by omega
            have hs2 : i + j ≤ 4 := by omega
            have w2 : IntKind.i64.wrap ((i : Int) + (j : Int) + 1) = (i : Int) + (j : Int) + 1 := IntWalk.i64_in _ (by omega)
            have w4 : (0 : Int) ≤ (i : Int) + (j : Int) + 1 := by omega
            have w5 : (i : Int) + (j : Int) + 1 < 6 := by omega
            have w6 : ((i : Int) + (j : Int) + 1).toNat = i + j + 1 := by omega
            obtain ⟨X, hX⟩ : ∃ X, nt a i = X := ⟨_, rfl⟩
            obtain ⟨Y, hY⟩ : ∃ Y, nt b j = Y := ⟨_, rfl⟩
            obtain ⟨O, hO⟩ : ∃ O, nt o (i + j + 1) = O := ⟨_, rfl⟩
            have g0 := nuA_get (l := a) (i := i) (by rw [ha.len]; exact hi)
            have g1 := nuA_get (l := b) (i := j) (by rw [hb.len]; exact hj)
            have g2 := nuA_get (l := o) (i := i + j + 1) (by rw [HR.out.wd.len]; omega)
            rw [hX] at g0
            rw [hY] at g1
            rw [hO] at g2
            have hXl : X < 18446744073709551616 := by rw [← hX]; exact ha.lt i
            have hYl : Y < 18446744073709551616 := by rw [← hY]; exact hb.lt j
            obtain ⟨HI, LO, S1, C1, S2, C2, e1, e2, e3, e4, e5, e6, hC1, hC2, hS2, hS1, hLO, hH, e7⟩ := row_word (x := X) (y := Y) (o := O) (c := c) (B := 18446744073709551616) hXl hYl (by rw [← hO]; exact HR.out.wd.lt _) HR.out.cB
            have HM := Lib.hid (one_call (fun W => Tryz.bits_Mul64 X Y hXl hYl W))
            rw [e1, e2] at HM
            have hcall1 : ∀ W, (callFunc 180 #[.int .u64 (O : Int), .int .u64 (LO : Int), .int .u64 0]).run Tryz.prog W = .ok (.value (.tuple #[.int .u64 (S1 : Int), .int .u64 (C1 : Int)])) W := fun W => by
              have := add64 O LO 0 (by omega) W
              rw [e3, e4] at this
              exact this
            have hcall2 : ∀ W, (callFunc 180 #[.int .u64 (S1 : Int), .int .u64 (c : Int), .int .u64 0]).run Tryz.prog W = .ok (.value (.tuple #[.int .u64 (S2 : Int), .int .u64 (C2 : Int)])) W := fun W => by
              have := add64 S1 c 0 (by omega) W
              rw [e5, e6] at this
              exact this
            have kH1 : IntKind.u64.wrap ((HI : Int) + (C1 : Int)) = (HI : Int) + (C1 : Int) := IntWalk.u64_in _ (by omega)
            have kH2 : IntKind.u64.wrap ((HI : Int) + (C1 : Int) + (C2 : Int)) = (HI : Int) + (C1 : Int) + (C2 : Int) := IntWalk.u64_in _ (by omega)
            have HN := Lib.hid (HR.out.step hj hs2 hS2 hH (by rw [hX, hY, hO]; exact e7))
            clear HR e1 e2 e3 e4 e5 e6 e7 hX hY hO hXl hYl hs
            go_wp2_with fail
            refine region_mixW [0, 0, 0, 0, 0, 0, 0, 0, 0, 0, 0, 0] (by kernel_rfl) (by kernel_rfl) (by kernel_rfl) ?_
            repeat (first | (refine wpM_quiet (fun K hK => ?_); go_simp; first | (refine hK _ ?_; clear hK K) | (apply Exists.intro; refine ⟨fun _ => ?_, hK _ ?_⟩; (first | (go_at_call 169; exact bq (HM.out _) (fun d => ⟨d, rfl⟩))); clear hK K)) | (refine wpM_special (fun K hK d => ?_); go_simp; refine hK _ _ (by first | exact lay_in w [_] _ | exact lay_in w [_, _] _ | exact lay_in w [_, _, _] _ | exact lay_in w [_, _, _, _] _ | exact lay_in w [_, _, _, _, _] _ | exact lay_in w [_, _, _, _, _, _] _) ?_; clear hK K))
            refine wpM_nil ?_
            intro d
            rw [lay_bw]
            go_wp2_with fail
            rw [nuA_set]
            obtain ⟨d3, e3⟩ := lay_fold w [.inr d, .inr dd] [.inl (.cells (nuA (o.set (i + j + 1) S2)) 203 (0, 0)), .inl (.cells #[.int .u64 0, .int .u64 0, .int .u64 0, .int .u64 0] 175 (0, 0)), .inl (.cells (nuA b) 175 (0, 0)), .inl (.cells (nuA a) 175 (0, 0))]
            change lay w [.inr d, .inr dd, .inl (.cells (nuA (o.set (i + j + 1) S2)) 203 (0, 0)), .inl (.cells #[.int .u64 0, .int .u64 0, .int .u64 0, .int .u64 0] 175 (0, 0)), .inl (.cells (nuA b) 175 (0, 0)), .inl (.cells (nuA a) 175 (0, 0))] = _ at e3
            rw [e3]
            exact ⟨⟨j, HI + C1 + C2, o.set (i + j + 1) S2, d3, by omega, by first | rfl | exact congrArg (Value.int .u64) (by omega), rfl, rfl, HN.out⟩, by simp [intOf]⟩
end Go.Proofs.YtkhhdpndcidmgaaGreat
