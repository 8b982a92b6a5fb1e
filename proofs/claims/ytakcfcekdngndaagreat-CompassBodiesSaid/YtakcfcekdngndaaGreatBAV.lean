/- Contracts and plain laws, several texts in one: CompPlain2; Comp6; Fi1 -/
import Derived.Test.YtakcfcekdngndaaGreatProg
import Derived.WalkKit
import Derived.WalkSpells
import Derived.WalkLawsBesides
import Derived.Lib.Hide
import Derived.BigQuiet
import Derived.BigRegion
import Derived.Test.YtakcfcekdngndaaGreatBAA
import Derived.Test.YtakcfcekdngndaaGreatBAB
import Derived.Test.YtakcfcekdngndaaGreatBAC
import Derived.Test.YtakcfcekdngndaaGreatBAG
import Derived.Test.YtakcfcekdngndaaGreatBAT
import Derived.Test.YtakcfcekdngndaaGreatBAU
/- More plain facts on deviation tables: bounds, parts of arcs, and that a compass course is found. No program in sight. -/
namespace Go.Proofs.YtakcfcekdngndaaGreat

theorem at_bounds {l : Tl} (T : Tab l) (hl : 0 < l.length) {X Y : Int} (h : ∀ i, i < l.length → X ≤ dv l i ∧ dv l i ≤ Y) (n : Int) : X ≤ atLo l n ∧ atHi l n ≤ Y := by
  obtain ⟨k, p, g, S⟩ := seg_ex T hl n
  have b := seg_between S (Int.le_refl _) S.p0 (Int.le_of_lt S.p1) (Int.le_refl _)
  have z := zero_div_cdiv g
  have f := mul_self_div (s := dv l (nx l k) - dv l k) S.g0
  rw [Int.sub_self, Int.mul_zero, z.1, z.2, show p + g - p = g by omega, f.1, f.2] at b
  have h1 := h k S.kl
  have h2 := h (nx l k) S.nxl
  omega
theorem at_wide {l : Tl} (T : Tab l) (n : Int) : -1800000 ≤ atLo l n ∧ atHi l n ≤ 1800000 := by
  by_cases hl : 0 < l.length
  · exact at_bounds T hl (fun i hi => ⟨T.d0 i hi, T.d1 i hi⟩) n
  · have : l = [] := List.eq_nil_of_length_eq_zero (by omega)
    subst this
    rw [(at_nil n).1, (at_nil n).2]; omega
theorem seg_slope {l : Tl} (T : Tab l) {n : Int} {k : Nat} {p g : Int} (S : Seg l n k p g) : -g ≤ 2 * (dv l (nx l k) - dv l k) ∧ 2 * (dv l (nx l k) - dv l k) ≤ g := by
  have hk := S.kl
  have hp := S.ph
  have hq := S.qh
  have g0 := S.g0
  have g1 := S.g1
  have k0 := T.h0 k hk
  have k1 := T.h1 k hk
  by_cases e : k + 1 < l.length
  · have nxk : nx l k = k + 1 := by unfold nx; exact Nat.mod_eq_of_lt e
    rw [nxk] at hq ⊢
    have a := T.asc k e
    have s := T.st k e
    have b1 := T.h1 (k + 1) e
    omega
  · have ek : k = l.length - 1 := by omega
    have nxk : nx l k = 0 := by unfold nx; rw [show k + 1 = l.length by omega]; exact Nat.mod_self _
    rw [nxk] at hq ⊢
    have c := T.cy (by omega)
    rw [← ek] at c
    have b0 := T.h0 0 (by omega)
    have b1 := T.h1 0 (by omega)
    have lt : 0 < k → hd l 0 < hd l k := fun h => T.lt hk 0 h
    by_cases z : k = 0
    · subst z; omega
    · have := lt (by omega); omega
theorem at_step {l : Tl} (T : Tab l) (n : Int) : atLo l (n + 1) ≤ atHi l n := by
  by_cases hl : 0 < l.length
  · obtain ⟨k, p, g, S⟩ := seg_ex T hl n
    have sl := seg_slope T S
    have g0 := S.g0
    have p0 := S.p0
    have p1 := S.p1
    obtain ⟨e1, e2⟩ := S.val n S.p0 S.p1
    rw [e2]
    generalize hs : dv l (nx l k) - dv l k = s at *
    by_cases c : n + 1 < p + g
    · obtain ⟨f1, f2⟩ := S.val (n + 1) (by omega) c
      rw [f1, hs, show n + 1 - p = (n - p) + 1 by omega, Int.mul_add, Int.mul_one]
      generalize s * (n - p) = x
      have h1 := Int.ediv_mul_le (x + s) (show g ≠ 0 by omega)
      have h2 := Int.ediv_mul_le (-x) (show g ≠ 0 by omega)
      have h3 := Int.lt_ediv_add_one_mul_self (-x) g0
      unfold cdiv
      generalize (x + s) / g = a at *
      generalize (-x) / g = b at *
      have : (a + b) * g ≤ s := by rw [Int.add_mul]; omega
      have : a + b ≤ 0 := by
        apply Int.not_lt.1
        intro hlt
        have := Int.mul_le_mul_of_nonneg_right (show 1 ≤ a + b by omega) (show 0 ≤ g by omega)
        omega
      omega
    · have en : n + 1 = p + g := by omega
      have := at_entry T S.nxl (n + 1) (by rw [en]; exact S.qh)
      rw [this.1, show n - p = g - 1 by omega, Int.mul_sub, Int.mul_one]
      have h1 := Int.ediv_mul_le (-(s * g - s)) (show g ≠ 0 by omega)
      unfold cdiv
      generalize -(s * g - s) / g = b at *
      have e3 : (b + s) * g ≤ s := by rw [Int.add_mul]; omega
      have : b + s ≤ 0 := by
        apply Int.not_lt.1
        intro hlt
        have := Int.mul_le_mul_of_nonneg_right (show 1 ≤ b + s by omega) (show 0 ≤ g by omega)
        omega
      omega
  · have : l = [] := List.eq_nil_of_length_eq_zero (by omega)
    subst this
    rw [(at_nil n).2, (at_nil (n + 1)).1]; omega
/-- A compass course is found for each magnetic one. -/
theorem sol_ex {l : Tl} (T : Tab l) (M : Int) : ∃ c, M - atHi l c ≤ c ∧ c ≤ M - atLo l c := by
  have key : ∀ k : Nat, (∃ c, M - atHi l c ≤ c ∧ c ≤ M - atLo l c) ∨ (M - 1800001 + k) + atHi l (M - 1800001 + k) < M := fun k => by
    induction k with
    | zero => right; have := at_wide T (M - 1800001 + (0 : Nat)); omega
    | succ k ih =>
      rcases ih with h | h
      · exact .inl h
      · by_cases c : (M - 1800001 + (k + 1 : Nat)) + atHi l (M - 1800001 + (k + 1 : Nat)) < M
        · exact .inr c
        · left
          refine ⟨M - 1800001 + (k + 1 : Nat), by omega, ?_⟩
          have := at_step T (M - 1800001 + k)
          rw [show M - 1800001 + (k + 1 : Nat) = M - 1800001 + (k : Nat) + 1 by omega]
          omega
  rcases key 3600003 with h | h
  · exact h
  · have := at_wide T (M - 1800001 + (3600003 : Nat))
    have := at_le T (M - 1800001 + (3600003 : Nat))
    omega

/-! ### The deviation over an arc, turned -/
def oL (l : Tl) (x y : Int) : Int := ovLo l (turnLo x y) (turnHi x y)
def oH (l : Tl) (x y : Int) : Int := ovHi l (turnLo x y) (turnHi x y)
theorem turn_bd {x y : Int} (h : x ≤ y) : 0 ≤ turnLo x y ∧ turnLo x y ≤ turnHi x y ∧ turnHi x y < 43200000 := by unfold turnLo turnHi; split <;> omega
theorem o_has {l : Tl} (T : Tab l) {x y n : Int} (h1 : x ≤ n) (h2 : n ≤ y) : oL l x y ≤ atLo l n ∧ atHi l n ≤ oH l x y := by
  have tb := turn_bd (show x ≤ y by omega)
  have : ∃ m k, m = n + k * 21600000 ∧ turnLo x y ≤ m ∧ m ≤ turnHi x y := by
    unfold turnLo turnHi
    by_cases c : 21600000 ≤ y - x
    · rw [if_pos c, if_pos c]
      exact ⟨n % 21600000, -(n / 21600000), by omega, by omega, by omega⟩
    · rw [if_neg c, if_neg c]
      exact ⟨n - x + x % 21600000, -(x / 21600000), by omega, by omega, by omega⟩
  obtain ⟨m, k, e, a, b⟩ := this
  have := ov_has T tb.1 tb.2.2 a b
  rw [e, atLo_turn, atHi_turn] at this
  exact this
theorem o_glb {l : Tl} (T : Tab l) {x y X Y : Int} (hxy : x ≤ y) (h : ∀ n, x ≤ n → n ≤ y → X ≤ atLo l n ∧ atHi l n ≤ Y) : X ≤ oL l x y ∧ oH l x y ≤ Y := by
  have tb := turn_bd hxy
  refine ov_glb T tb.2.1 fun m a b => ?_
  have : ∃ n k, n = m + k * 21600000 ∧ x ≤ n ∧ n ≤ y := by
    unfold turnLo at a
    unfold turnHi at b
    by_cases c : 21600000 ≤ y - x
    · rw [if_pos c] at a b
      exact ⟨x + (m - x) % 21600000, -((m - x) / 21600000), by omega, by omega, by omega⟩
    · rw [if_neg c] at a b
      exact ⟨m + (x - x % 21600000), x / 21600000, by omega, by omega, by omega⟩
  obtain ⟨n, k, e, a', b'⟩ := this
  have := h n a' b'
  rw [e, atLo_turn, atHi_turn] at this
  exact this
theorem o_mono {l : Tl} (T : Tab l) {x y u v : Int} (h1 : x ≤ u) (h2 : u ≤ v) (h3 : v ≤ y) : oL l x y ≤ oL l u v ∧ oH l u v ≤ oH l x y :=
  o_glb T h2 fun _ a b => o_has T (by omega) (by omega)
theorem o_bounds {l : Tl} (T : Tab l) (hl : 0 < l.length) {x y X Y : Int} (hxy : x ≤ y) (h : ∀ i, i < l.length → X ≤ dv l i ∧ dv l i ≤ Y) : X ≤ oL l x y ∧ oH l x y ≤ Y :=
  o_glb T hxy fun n _ _ => at_bounds T hl h n
theorem o_wide {l : Tl} (T : Tab l) {x y : Int} (hxy : x ≤ y) : -1800000 ≤ oL l x y ∧ oL l x y ≤ oH l x y ∧ oH l x y ≤ 1800000 := by
  have a := o_glb T hxy (fun n _ _ => at_wide T n)
  have b := o_has T (Int.le_refl x) hxy
  have := at_le T x
  omega
theorem o_entry {l : Tl} (T : Tab l) {i : Nat} (hi : i < l.length) : oL l (hd l i) (hd l i) = dv l i ∧ oH l (hd l i) (hd l i) = dv l i := by
  have e := at_entry T hi (hd l i) (by have := T.h0 i hi; have := T.h1 i hi; omega)
  have a := o_has T (Int.le_refl (hd l i)) (Int.le_refl (hd l i))
  have b := o_glb T (Int.le_refl (hd l i)) (X := dv l i) (Y := dv l i) fun n h1 h2 => by
    obtain rfl : n = hd l i := by omega
    rw [e.1, e.2]; omega
  rw [e.1, e.2] at a
  omega
theorem turn_shift (x y : Int) : turnLo (x + 21600000) (y + 21600000) = turnLo x y ∧ turnHi (x + 21600000) (y + 21600000) = turnHi x y := by
  unfold turnLo turnHi
  rw [show y + 21600000 - (x + 21600000) = y - x by omega]
  split <;> omega
theorem o_shift (l : Tl) (x y : Int) : oL l (x + 21600000) (y + 21600000) = oL l x y ∧ oH l (x + 21600000) (y + 21600000) = oH l x y := by
  unfold oL oH; rw [(turn_shift x y).1, (turn_shift x y).2]; exact ⟨rfl, rfl⟩
theorem o_nil (x y : Int) (h : x ≤ y) : oL [] x y = 0 ∧ oH [] x y = 0 := by
  have T : Tab [] := ⟨by simp, by simp, by simp, by simp, by simp, by simp, by simp, by simp⟩
  have a := o_has T (Int.le_refl x) h
  have b := o_glb T h (X := 0) (Y := 0) fun n _ _ => by rw [(at_nil n).1, (at_nil n).2]; omega
  rw [(at_nil x).1, (at_nil x).2] at a
  omega
/-- An arc and its direction form have the same deviation. -/
theorem o_turn {l : Tl} (T : Tab l) {x y : Int} (h : x ≤ y) : oL l (turnLo x y) (turnHi x y) = oL l x y ∧ oH l (turnLo x y) (turnHi x y) = oH l x y := by
  have tb := turn_bd h
  have a : oL l x y ≤ oL l (turnLo x y) (turnHi x y) ∧ oH l (turnLo x y) (turnHi x y) ≤ oH l x y := o_glb T tb.2.1 fun m u v => ov_has T tb.1 tb.2.2 u v
  have b : oL l (turnLo x y) (turnHi x y) ≤ oL l x y ∧ oH l x y ≤ oH l (turnLo x y) (turnHi x y) := o_glb T h fun n u v => by
    have : ∃ m k, m = n + k * 21600000 ∧ turnLo x y ≤ m ∧ m ≤ turnHi x y := by
      unfold turnLo turnHi
      by_cases c : 21600000 ≤ y - x
      · rw [if_pos c, if_pos c]
        exact ⟨n % 21600000, -(n / 21600000), by omega, by omega, by omega⟩
      · rw [if_neg c, if_neg c]
        exact ⟨n - x + x % 21600000, -(x / 21600000), by omega, by omega, by omega⟩
    obtain ⟨m, k, e, a, b⟩ := this
    have := o_has T a b
    rw [e, atLo_turn, atHi_turn] at this
    exact this
  omega

/-! ### The compass course -/
/-- The hull of the deviations of the first k entries. -/
def dK (l : Tl) : Nat → Int × Int
  | 0 => (0, 0)
  | k + 1 => if k = 0 then (dv l 0, dv l 0) else (mn' (dK l k).1 (dv l k), mx' (dK l k).2 (dv l k))
theorem dK_has (l : Tl) : ∀ k i, i < k → (dK l k).1 ≤ dv l i ∧ dv l i ≤ (dK l k).2
  | 0, _, h => by omega
  | k + 1, i, h => by
    unfold dK
    by_cases z : k = 0
    · subst z; rw [if_pos rfl]; obtain rfl : i = 0 := by omega
      exact ⟨Int.le_refl _, Int.le_refl _⟩
    · rw [if_neg z]
      by_cases e : i = k
      · subst e; simp only [mn', mx']; split <;> split <;> omega
      · have := dK_has l k i (by omega)
        simp only [mn', mx']; split <;> split <;> omega
theorem dK_bd {l : Tl} {X Y : Int} (h0 : X ≤ 0) (h1 : 0 ≤ Y) : ∀ k, (∀ i, i < k → X ≤ dv l i ∧ dv l i ≤ Y) → X ≤ (dK l k).1 ∧ (dK l k).1 ≤ Y ∧ X ≤ (dK l k).2 ∧ (dK l k).2 ≤ Y
  | 0, _ => ⟨h0, h1, h0, h1⟩
  | k + 1, h => by
    unfold dK
    have a := h k (by omega)
    by_cases z : k = 0
    · subst z; rw [if_pos rfl]; exact ⟨a.1, a.2, a.1, a.2⟩
    · rw [if_neg z]
      have := dK_bd h0 h1 k fun i hi => h i (by omega)
      simp only [mn', mx']; split <;> split <;> omega
def itC (l : Tl) (p q : Int) : Nat → Int × Int
  | 0 => (p - (dK l l.length).2, q - (dK l l.length).1)
  | k + 1 => (mx' (itC l p q k).1 (p - oH l (itC l p q k).1 (itC l p q k).2), mn' (itC l p q k).2 (q - oL l (itC l p q k).1 (itC l p q k).2))
theorem itC_has {l : Tl} (T : Tab l) {p q c : Int} (h1 : p - atHi l c ≤ c) (h2 : c ≤ q - atLo l c) : ∀ k, (itC l p q k).1 ≤ c ∧ c ≤ (itC l p q k).2
  | 0 => by
    show p - (dK l l.length).2 ≤ c ∧ c ≤ q - (dK l l.length).1
    by_cases hl : 0 < l.length
    · have := at_bounds T hl (fun i hi => dK_has l l.length i hi) c
      omega
    · have : l = [] := List.eq_nil_of_length_eq_zero (by omega)
      subst this
      have := at_nil c
      show p - 0 ≤ c ∧ c ≤ q - 0
      omega
  | k + 1 => by
    have ih := itC_has T h1 h2 k
    have o := o_has T ih.1 ih.2
    show mx' (itC l p q k).1 (p - oH l (itC l p q k).1 (itC l p q k).2) ≤ c ∧ c ≤ mn' (itC l p q k).2 (q - oL l (itC l p q k).1 (itC l p q k).2)
    unfold mx' mn'; split <;> split <;> omega
theorem itC_in {l : Tl} (p q : Int) : ∀ k, (itC l p q 0).1 ≤ (itC l p q k).1 ∧ (itC l p q k).2 ≤ (itC l p q 0).2
  | 0 => ⟨Int.le_refl _, Int.le_refl _⟩
  | k + 1 => by
    have ih := itC_in (l := l) p q k
    show _ ≤ mx' (itC l p q k).1 _ ∧ mn' (itC l p q k).2 _ ≤ _
    unfold mx' mn'; split <;> split <;> omega
theorem itC_ok {l : Tl} (T : Tab l) {p q : Int} (hpq : p ≤ q) (k : Nat) : p - 1800000 ≤ (itC l p q k).1 ∧ (itC l p q k).1 ≤ (itC l p q k).2 ∧ (itC l p q k).2 ≤ q + 1800000 := by
  obtain ⟨c, h1, h2⟩ := sol_ex T p
  have a := itC_has T h1 (show c ≤ q - atLo l c by omega) k
  have b := itC_in (l := l) p q k
  have d := dK_bd (l := l) (X := -1800000) (Y := 1800000) (by decide) (by decide) l.length (fun i hi => ⟨T.d0 i hi, T.d1 i hi⟩)
  have e : (itC l p q 0).1 = p - (dK l l.length).2 ∧ (itC l p q 0).2 = q - (dK l l.length).1 := ⟨rfl, rfl⟩
  omega
end Go.Proofs.YtakcfcekdngndaaGreat
/- compass.Deviation, ErrorBy (at what awake wants), the law's helpers. -/
namespace Go.Proofs.YtakcfcekdngndaaGreat
open Go.RowKit

set_option maxHeartbeats 1000000 in
theorem comp_Deviation_bad (v : Value) (l : Tl) (x0 y0 : Int) (w : World) (hv : Tabs w v l) (h : (vB l && validB x0 y0) = false) :
    Calls Tryz.prog 45 #[v, (.agg #[.int .i64 (x0), .int .i64 (y0)])] w fun e w' => e = .returned (.tuple #[(.agg #[.int .i64 (0), .int .i64 (0)]), .int .i64 1]) ∧ ∃ d, w' = bw w d := by
  have HV := Lib.hid hv
  clear hv
  cases h1 : vB l
  · clear h
    refine lay_start ?_
    go_enter Tryz.func45, Tryz.ntmps45
    go_wp2_with (go_at_call 78; refine (comp_Valid _ l _ (tabs_lay HV.out _)).mono ?_; rintro e w' ⟨rfl, d, rfl⟩)
    exact bodyPost_ret (v := .tuple #[(.agg #[.int .i64 (0), .int .i64 (0)]), .int .i64 1]) (by simp [results, Tryz.results45, go_sem]) rfl ⟨rfl, lay_ex _ _⟩
  · have h2 : validB x0 y0 = false := by simpa [h1] using h
    clear h
    refine lay_start ?_
    go_enter Tryz.func45, Tryz.ntmps45
    go_wp2_with (first | (go_at_call 78; refine (comp_Valid _ l _ (tabs_lay HV.out _)).mono ?_; rintro e w' ⟨rfl, d, rfl⟩) | (go_at_call 23; refine (angle_Valid _ _ _).mono ?_; rintro e w' ⟨rfl, d, rfl⟩))
    exact bodyPost_ret (v := .tuple #[(.agg #[.int .i64 (0), .int .i64 (0)]), .int .i64 1]) (by simp [results, Tryz.results45, go_sem]) rfl ⟨rfl, lay_ex _ _⟩
theorem comp_overT (v : Value) (l : Tl) (x0 y0 : Int) (w : World) (hv : Tabs w v l) (T : Tab l) (hV : validB x0 y0 = true) :
    Calls Tryz.prog 79 #[v, (.agg #[.int .i64 (x0), .int .i64 (y0)])] w fun e w' => e = .returned (.tuple #[(.agg #[.int .i64 (oL l x0 y0), .int .i64 (oH l x0 y0)]), .int .i64 0]) ∧ ∃ d, w' = bw w d :=
  comp_over v l x0 y0 w hv T hV
set_option maxHeartbeats 1000000 in
theorem comp_Deviation_ok (v : Value) (l : Tl) (x0 y0 : Int) (w : World) (hv : Tabs w v l) (h1 : vB l = true) (h2 : validB x0 y0 = true) :
    Calls Tryz.prog 45 #[v, (.agg #[.int .i64 (x0), .int .i64 (y0)])] w fun e w' => e = .returned (.tuple #[(.agg #[.int .i64 (oL l x0 y0), .int .i64 (oH l x0 y0)]), .int .i64 0]) ∧ ∃ d, w' = bw w d := by
  have HV := Lib.hid hv
  clear hv
  refine lay_start ?_
  go_enter Tryz.func45, Tryz.ntmps45
  go_wp2_with (first | (go_at_call 78; refine (comp_Valid _ l _ (tabs_lay HV.out _)).mono ?_; rintro e w' ⟨rfl, d, rfl⟩) | (go_at_call 23; refine (angle_Valid _ _ _).mono ?_; rintro e w' ⟨rfl, d, rfl⟩) | (go_at_call 79; refine (comp_overT _ l _ _ _ (tabs_lay HV.out _) (vB_iff.1 h1) h2).mono ?_; rintro e w' ⟨rfl, d, rfl⟩))
  exact bodyPost_ret (v := .tuple #[(.agg #[.int .i64 (oL l x0 y0), .int .i64 (oH l x0 y0)]), .int .i64 0]) (by simp [results, Tryz.results45, go_sem]) rfl ⟨rfl, lay_ex _ _⟩
set_option maxHeartbeats 400000 in
theorem law_at (n : Int) (w : World) :
    Calls Tryz.prog 46 #[.int .i64 n] w fun e w' => e = .returned ((.agg #[.int .i64 (n), .int .i64 (n)])) ∧ ∃ d, w' = bw w d := by
  refine lay_start ?_
  go_enter Tryz.func46, Tryz.ntmps46
  go_wp2
  exact bodyPost_ret (v := (.agg #[.int .i64 (n), .int .i64 (n)])) (by simp [results, Tryz.results46, go_sem]) rfl ⟨rfl, lay_ex _ _⟩
set_option maxHeartbeats 1000000 in
theorem comp_ErrorBy_eg (w : World) :
    Calls Tryz.prog 11 #[(.agg #[.int .i64 (5), .int .i64 (5)]), (.agg #[.int .i64 (21599999), .int .i64 (21599999)])] w fun e w' => e = .returned (.tuple #[(.agg #[.int .i64 (-6), .int .i64 (-6)]), .int .i64 0]) ∧ ∃ d, w' = bw w d := by
  have v1 : validB 5 5 = true := by decide
  have v2 : validB 21599999 21599999 = true := by decide
  have n1 : (withB 5 274877906944 && withB 5 274877906944) = true := by decide
  have n2 : (withB 21599999 274877906944 && withB 21599999 274877906944) = true := by decide
  refine lay_start ?_
  go_enter Tryz.func11, Tryz.ntmps11
  go_wp2_with (first | (go_at_call 23; refine (angle_Valid _ _ _).mono ?_; rintro e w' ⟨rfl, d, rfl⟩) | (go_at_call 52; refine (comp_near _ _ _).mono ?_; rintro e w' ⟨rfl, d, rfl⟩) | (go_at_call 53; refine (angle_Sgn _ _).mono ?_; rintro e w' ⟨rfl, rfl⟩))
  refine region_bw (by kernel_rfl) (by kernel_rfl) ?_
  repeat (go_big_quiet_step ((first | fail)))
  refine wpQuiet_nil ?_
  rintro w' ⟨d, rfl⟩
  rw [lay_bw]
  go_wp2_with (go_at_call 53; refine (angle_Sgn _ _).mono ?_; rintro e w' ⟨rfl, rfl⟩)
  exact bodyPost_ret (v := .tuple #[(.agg #[.int .i64 (-6), .int .i64 (-6)]), .int .i64 0]) (by simp [results, Tryz.results11, go_sem, sgnI, wrap64]) rfl ⟨rfl, lay_ex _ _⟩
def egT : Tl := [(0, 60000), (5400000, -60000)]
theorem two_of {i : Nat} (h : i < egT.length) : i = 0 ∨ i = 1 := by
  have : i < 2 := h
  omega
theorem eg_valid : vB egT = true := vB_iff.2 (by
  refine tab_of (by decide) (fun i hi => ?_) (fun i hi => ?_)
  · rcases two_of hi with rfl | rfl
    · exact ⟨by decide, by decide, by decide⟩
    · exact ⟨by decide, by decide, by decide⟩
  · rcases two_of hi with rfl | rfl
    · unfold E2; decide
    · unfold E2; decide)
theorem eg_at1 : oL egT 2700000 2700000 = 0 ∧ oH egT 2700000 2700000 = 0 := by decide
theorem eg_at2 : oL egT 1 1 = 59999 ∧ oH egT 1 1 = 60000 := by decide
theorem tabs_cons {w : World} {L : List (Obj ⊕ Ext)} {v : Value} {l : Tl} (h : Tabs (lay w L) v l) (x : Obj ⊕ Ext) : Tabs (lay w (x :: L)) v l := by
  have := tabs_lay h [x]
  cases x <;> exact this
theorem eg_tabs (w : World) (t : TypeId) : Tabs (lay w [.inl (.cells #[.int .i64 0, .int .i64 60000, .int .i64 5400000, .int .i64 (-60000)] t)]) (.slice (some ⟨posn w [], 0, none⟩) 2 2) egT := by
  refine ⟨_, 2, rfl, by decide, fun _ => ⟨posn w [], 0, rfl, ?_, fun i hi => ?_⟩⟩
  · rw [lay_size]; simp [posn, shp]
  · rcases two_of hi with rfl | rfl
    · refine ⟨?_, ?_, by decide, by decide⟩ <;> (rw [lay_cell _ _ _ _ (by simp) rfl rfl]; rfl)
    · refine ⟨?_, ?_, by decide, by decide⟩ <;> (rw [lay_cell _ _ _ _ (by simp) rfl rfl]; rfl)
theorem eg_Dev1 (v : Value) (w : World) (hv : Tabs w v egT) :
    Calls Tryz.prog 45 #[v, (.agg #[.int .i64 (2700000), .int .i64 (2700000)])] w fun e w' => e = .returned (.tuple #[(.agg #[.int .i64 (0), .int .i64 (0)]), .int .i64 0]) ∧ ∃ d, w' = bw w d := by
  have := comp_Deviation_ok v egT 2700000 2700000 w hv eg_valid (by decide)
  rw [eg_at1.1, eg_at1.2] at this
  exact this
theorem eg_Dev2 (v : Value) (w : World) (hv : Tabs w v egT) :
    Calls Tryz.prog 45 #[v, (.agg #[.int .i64 (1), .int .i64 (1)])] w fun e w' => e = .returned (.tuple #[(.agg #[.int .i64 (59999), .int .i64 (60000)]), .int .i64 0]) ∧ ∃ d, w' = bw w d := by
  have := comp_Deviation_ok v egT 1 1 w hv eg_valid (by decide)
  rw [eg_at2.1, eg_at2.2] at this
  exact this
set_option maxHeartbeats 4000000 in
theorem law_awake (w : World) :
    Calls Tryz.prog 9 #[] w fun e w' => e = .returned (.bool true) ∧ ∃ d, w' = bw w d := by
  refine lay_start ?_
  go_enter Tryz.func9, Tryz.ntmps9
  go_wp2_with (go_at_call 46; refine (law_at _ _).mono ?_; rintro e w' ⟨rfl, d, rfl⟩)
  refine (eg_Dev1 _ _ (by repeat' (first | exact eg_tabs _ _ | refine tabs_cons ?_ _))).mono ?_
  rintro e w' ⟨rfl, d, rfl⟩
  go_wp2_with (go_at_call 46; refine (law_at _ _).mono ?_; rintro e w' ⟨rfl, d, rfl⟩)
  refine (eg_Dev2 _ _ (by repeat' (first | exact eg_tabs _ _ | refine tabs_cons ?_ _))).mono ?_
  rintro e w' ⟨rfl, d, rfl⟩
  go_wp2_with (first | (go_at_call 46; refine (law_at _ _).mono ?_; rintro e w' ⟨rfl, d, rfl⟩) | (go_at_call 11; refine (comp_ErrorBy_eg _).mono ?_; rintro e w' ⟨rfl, d, rfl⟩))
  refine region_bw (by kernel_rfl) (by kernel_rfl) ?_
  repeat (go_big_quiet_step ((first | (go_at_call 46; exact bq (law_at _ _) (fun d => lay_join _ _ _ d)) | (go_at_call 46; exact bq (law_at _ _) (fun d => ⟨d, rfl⟩)))))
  refine wpQuiet_nil ?_
  rintro w' ⟨d, rfl⟩
  rw [lay_bw]
  go_wp2
  go_ret
  exact ⟨rfl, lay_ex _ _⟩
end Go.Proofs.YtakcfcekdngndaaGreat
/- compass.ErrorBy at valid arcs; angle.Agree. -/
namespace Go.Proofs.YtakcfcekdngndaaGreat
open Go.RowKit

def nearB (x y : Int) : Bool := withB x 274877906944 && withB y 274877906944
theorem nearB_iff {x y : Int} : nearB x y = true ↔ (-274877906944 ≤ x ∧ x ≤ 274877906944) ∧ -274877906944 ≤ y ∧ y ≤ 274877906944 := by simp [nearB, withB]
set_option maxHeartbeats 1000000 in
theorem comp_ErrorBy_far (o0 o1 z0 z1 : Int) (w : World) (vo : validB o0 o1 = true) (vz : validB z0 z1 = true) (h : (nearB o0 o1 && nearB z0 z1) = false) :
    Calls Tryz.prog 11 #[(.agg #[.int .i64 (o0), .int .i64 (o1)]), (.agg #[.int .i64 (z0), .int .i64 (z1)])] w fun e w' => e = .returned (.tuple #[(.agg #[.int .i64 (0), .int .i64 (0)]), .int .i64 2]) ∧ ∃ d, w' = bw w d := by
  have HV1 : Hid (∀ W, Calls Tryz.prog 23 #[(.agg #[.int .i64 (o0), .int .i64 (o1)])] W fun e w' => e = .returned (.bool true) ∧ ∃ d, w' = bw W d) := Lib.hid (fun W => by rw [← vo]; exact angle_Valid o0 o1 W)
  have HV2 : Hid (∀ W, Calls Tryz.prog 23 #[(.agg #[.int .i64 (z0), .int .i64 (z1)])] W fun e w' => e = .returned (.bool true) ∧ ∃ d, w' = bw W d) := Lib.hid (fun W => by rw [← vz]; exact angle_Valid z0 z1 W)
  have HN1 : Hid (∀ W, Calls Tryz.prog 52 #[(.agg #[.int .i64 (o0), .int .i64 (o1)])] W fun e w' => e = .returned (.bool (nearB o0 o1)) ∧ ∃ d, w' = bw W d) := Lib.hid (fun W => comp_near o0 o1 W)
  have HN2 : Hid (∀ W, Calls Tryz.prog 52 #[(.agg #[.int .i64 (z0), .int .i64 (z1)])] W fun e w' => e = .returned (.bool (nearB z0 z1)) ∧ ∃ d, w' = bw W d) := Lib.hid (fun W => comp_near z0 z1 W)
  generalize nearB o0 o1 = A at *
  generalize nearB z0 z1 = B at *
  clear vo vz
  cases A
  · clear h
    refine lay_start ?_
    go_enter Tryz.func11, Tryz.ntmps11
    go_wp2_with (first | (go_at_call 23; first | (with_reducible refine (HV1.out _).mono ?_; rintro e w' ⟨rfl, d, rfl⟩) | (with_reducible refine (HV2.out _).mono ?_; rintro e w' ⟨rfl, d, rfl⟩)) | (go_at_call 52; first | (with_reducible refine (HN1.out _).mono ?_; rintro e w' ⟨rfl, d, rfl⟩) | (with_reducible refine (HN2.out _).mono ?_; rintro e w' ⟨rfl, d, rfl⟩)))
    exact bodyPost_ret (v := .tuple #[(.agg #[.int .i64 (0), .int .i64 (0)]), .int .i64 2]) (by simp [results, Tryz.results11, go_sem]) rfl ⟨rfl, lay_ex _ _⟩
  · cases B
    · clear h
      refine lay_start ?_
      go_enter Tryz.func11, Tryz.ntmps11
      go_wp2_with (first | (go_at_call 23; first | (with_reducible refine (HV1.out _).mono ?_; rintro e w' ⟨rfl, d, rfl⟩) | (with_reducible refine (HV2.out _).mono ?_; rintro e w' ⟨rfl, d, rfl⟩)) | (go_at_call 52; first | (with_reducible refine (HN1.out _).mono ?_; rintro e w' ⟨rfl, d, rfl⟩) | (with_reducible refine (HN2.out _).mono ?_; rintro e w' ⟨rfl, d, rfl⟩)))
      exact bodyPost_ret (v := .tuple #[(.agg #[.int .i64 (0), .int .i64 (0)]), .int .i64 2]) (by simp [results, Tryz.results11, go_sem]) rfl ⟨rfl, lay_ex _ _⟩
    · cases h
def ebW (o0 o1 z0 z1 : Int) : Prop := 21600000 ≤ (z1 - o0) - (z0 - o1)
instance (o0 o1 z0 z1 : Int) : Decidable (ebW o0 o1 z0 z1) := by unfold ebW; infer_instance
def ebL (o0 o1 z0 z1 : Int) : Int := if ebW o0 o1 z0 z1 then -10800000 else signedI (z0 - o1)
def ebH (o0 o1 z0 z1 : Int) : Int := if ebW o0 o1 z0 z1 then 10800000 else signedI (z0 - o1) + (z1 - o0) - (z0 - o1)
theorem signedI_bd (n : Int) : -10800000 ≤ signedI n ∧ signedI n < 10800000 := by unfold signedI; split <;> omega
set_option maxHeartbeats 1000000 in
theorem comp_ErrorBy_ok (o0 o1 z0 z1 : Int) (w : World) (vo : validB o0 o1 = true) (vz : validB z0 z1 = true) (h1 : nearB o0 o1 = true) (h2 : nearB z0 z1 = true) :
    Calls Tryz.prog 11 #[(.agg #[.int .i64 (o0), .int .i64 (o1)]), (.agg #[.int .i64 (z0), .int .i64 (z1)])] w fun e w' => e = .returned (.tuple #[(.agg #[.int .i64 (ebL o0 o1 z0 z1), .int .i64 (ebH o0 o1 z0 z1)]), .int .i64 0]) ∧ ∃ d, w' = bw w d := by
  have HV1 : Hid (∀ W, Calls Tryz.prog 23 #[(.agg #[.int .i64 (o0), .int .i64 (o1)])] W fun e w' => e = .returned (.bool true) ∧ ∃ d, w' = bw W d) := Lib.hid (fun W => by rw [← vo]; exact angle_Valid o0 o1 W)
  have HV2 : Hid (∀ W, Calls Tryz.prog 23 #[(.agg #[.int .i64 (z0), .int .i64 (z1)])] W fun e w' => e = .returned (.bool true) ∧ ∃ d, w' = bw W d) := Lib.hid (fun W => by rw [← vz]; exact angle_Valid z0 z1 W)
  have HN1 : Hid (∀ W, Calls Tryz.prog 52 #[(.agg #[.int .i64 (o0), .int .i64 (o1)])] W fun e w' => e = .returned (.bool true) ∧ ∃ d, w' = bw W d) := Lib.hid (fun W => by rw [← h1]; exact comp_near o0 o1 W)
  have HN2 : Hid (∀ W, Calls Tryz.prog 52 #[(.agg #[.int .i64 (z0), .int .i64 (z1)])] W fun e w' => e = .returned (.bool true) ∧ ∃ d, w' = bw W d) := Lib.hid (fun W => by rw [← h2]; exact comp_near z0 z1 W)
  obtain ⟨⟨p0, p1⟩, p2, p3⟩ := nearB_iff.1 h1
  obtain ⟨⟨p4, p5⟩, p6, p7⟩ := nearB_iff.1 h2
  have hs := signedI_bd (z0 - o1)
  obtain ⟨s0, s1⟩ := hs
  have HSg := Lib.hid (fun W => angle_Signed (z0 - o1) W)
  have w1 : IntKind.i64.wrap (z0 - o1) = z0 - o1 := IntWalk.i64_in _ (by omega)
  have w2 : IntKind.i64.wrap (z1 - o0) = z1 - o0 := IntWalk.i64_in _ (by omega)
  clear vo vz h1 h2
  by_cases hw : ebW o0 o1 z0 z1
  · have t1 : 21600000 ≤ (z1 - o0) - (z0 - o1) := hw
    unfold ebL ebH
    rw [if_pos hw, if_pos hw]
    clear hw
    refine lay_start ?_
    go_enter Tryz.func11, Tryz.ntmps11
    go_wp2_with (first | (go_at_call 23; first | (with_reducible refine (HV1.out _).mono ?_; rintro e w' ⟨rfl, d, rfl⟩) | (with_reducible refine (HV2.out _).mono ?_; rintro e w' ⟨rfl, d, rfl⟩)) | (go_at_call 52; first | (with_reducible refine (HN1.out _).mono ?_; rintro e w' ⟨rfl, d, rfl⟩) | (with_reducible refine (HN2.out _).mono ?_; rintro e w' ⟨rfl, d, rfl⟩)))
    refine region_bw (by kernel_rfl) (by kernel_rfl) ?_
    repeat (go_big_quiet_step ((first | fail)))
    refine wpQuiet_nil ?_
    rintro w' ⟨d, rfl⟩
    rw [lay_bw]
    go_wp2_with (go_at_call 53; refine (HSg.out _).mono ?_; rintro e w' ⟨rfl, rfl⟩)
    exact bodyPost_ret (v := .tuple #[(.agg #[.int .i64 (-10800000), .int .i64 (10800000)]), .int .i64 0]) (by simp [results, Tryz.results11, go_sem]) rfl ⟨rfl, lay_ex _ _⟩
  · have t1 : ¬ 21600000 ≤ (z1 - o0) - (z0 - o1) := hw
    unfold ebL ebH
    rw [if_neg hw, if_neg hw]
    clear hw
    generalize signedI (z0 - o1) = S at *
    refine lay_start ?_
    go_enter Tryz.func11, Tryz.ntmps11
    go_wp2_with (first | (go_at_call 23; first | (with_reducible refine (HV1.out _).mono ?_; rintro e w' ⟨rfl, d, rfl⟩) | (with_reducible refine (HV2.out _).mono ?_; rintro e w' ⟨rfl, d, rfl⟩)) | (go_at_call 52; first | (with_reducible refine (HN1.out _).mono ?_; rintro e w' ⟨rfl, d, rfl⟩) | (with_reducible refine (HN2.out _).mono ?_; rintro e w' ⟨rfl, d, rfl⟩)))
    refine region_bw (by kernel_rfl) (by kernel_rfl) ?_
    repeat (go_big_quiet_step ((first | fail)))
    refine wpQuiet_nil ?_
    rintro w' ⟨d, rfl⟩
    rw [lay_bw]
    go_wp2_with (go_at_call 53; refine (HSg.out _).mono ?_; rintro e w' ⟨rfl, rfl⟩)
    exact bodyPost_ret (v := .tuple #[(.agg #[.int .i64 (S), .int .i64 (S + (z1 - o0) - (z0 - o1))]), .int .i64 0]) (by simp [results, Tryz.results11, go_sem]) rfl ⟨rfl, lay_ex _ _⟩
end Go.Proofs.YtakcfcekdngndaaGreat
