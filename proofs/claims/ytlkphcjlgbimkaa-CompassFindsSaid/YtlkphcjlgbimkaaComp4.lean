/- compass.at: the deviation at a heading. -/
import Derived.Test.YtlkphcjlgbimkaaProg
import Derived.Test.YtlkphcjlgbimkaaLay
import Derived.Test.YtlkphcjlgbimkaaRegion
import Derived.Test.YtlkphcjlgbimkaaMix
import Derived.WalkKit
import Derived.WalkSpells
import Derived.WalkLawsBesides
import Derived.Lib.Hide
import Derived.BigQuiet
import Derived.BigRegion
import Derived.Test.YtlkphcjlgbimkaaPlain
import Derived.Test.YtlkphcjlgbimkaaAngle
import Derived.Test.YtlkphcjlgbimkaaCompPlain
import Derived.Test.YtlkphcjlgbimkaaTabs
import Derived.Test.YtlkphcjlgbimkaaComp1
import Derived.Test.YtlkphcjlgbimkaaComp2
import Derived.Test.YtlkphcjlgbimkaaComp3
namespace Go.Proofs.Ytlkphcjlgbimkaa
open Go.RowKit

theorem at_one {l : Tl} (h : l.length = 1) (n : Int) : atLo l n = dv l 0 ∧ atHi l n = dv l 0 := by
  have k0 : kx l (n % 21600000) = 0 := by have := kx_lt (l := l) (n % 21600000) (by omega); omega
  have n0 : nx l 0 = 0 := by unfold nx; rw [h]
  unfold atLo atHi aLo aHi
  rw [k0, n0, Int.sub_self, Int.zero_mul]
  simp [zero_div_cdiv]
/-- The quotient of the whole as the program forms it. -/
theorem whole_div {x s t d : Int} (hd : 0 < d) : (x * d + s * t) / d = x + (s * t) / d ∧ -((-(x * d + s * t)) / d) = x + cdiv (s * t) d := by
  constructor
  · rw [Int.add_comm, Int.add_mul_ediv_right _ _ (by omega)]; omega
  · unfold cdiv
    rw [show -(x * d + s * t) = -(s * t) + (-x) * d by rw [Int.neg_mul]; omega, Int.add_mul_ediv_right _ _ (by omega)]; omega
structure Between (l : Tl) (n : Int) (x y p q : Int) : Prop where
  lo : (x * (q - p) + (y - x) * (n % 21600000 - p)) / (q - p) = atLo l n
  hi : -((-(x * (q - p) + (y - x) * (n % 21600000 - p))) / (q - p)) = atHi l n
  d0 : 1 ≤ q - p
  d1 : q - p ≤ 21600000
  t0 : 0 ≤ n % 21600000 - p
  t1 : n % 21600000 - p ≤ 21600000
  x0 : -100000000000000 ≤ x * (q - p)
  x1 : x * (q - p) ≤ 100000000000000
  y0 : -100000000000000 ≤ (y - x) * (n % 21600000 - p)
  y1 : (y - x) * (n % 21600000 - p) ≤ 100000000000000
theorem mul_bnd {x k M K : Int} (h1 : -M ≤ x) (h2 : x ≤ M) (hk : 0 ≤ k) (hK : k ≤ K) (hM : 0 ≤ M) : -(M * K) ≤ x * k ∧ x * k ≤ M * K := by
  have a := Int.mul_le_mul_of_nonneg_right h1 hk
  have b := Int.mul_le_mul_of_nonneg_right h2 hk
  have c := Int.mul_le_mul_of_nonneg_left hK hM
  rw [Int.neg_mul] at a
  omega
theorem between_of {l : Tl} (T : Tab l) {n : Int} {a b : Nat} {p q : Int} (hka : kx l (n % 21600000) = a) (hb : nx l a = b) (ha' : a < l.length) (hb' : b < l.length)
    (hg : gapK l a = q - p) (ht : (n % 21600000 - hd l a) % 21600000 = n % 21600000 - p) (d0 : 1 ≤ q - p) (d1 : q - p ≤ 21600000) (t0 : 0 ≤ n % 21600000 - p) (t1 : n % 21600000 - p ≤ 21600000) : Between l n (dv l a) (dv l b) p q := by
  have w := whole_div (x := dv l a) (s := dv l b - dv l a) (t := n % 21600000 - p) (d := q - p) (by omega)
  have e1 := T.d0 a ha'; have e2 := T.d1 a ha'; have e3 := T.d0 b hb'; have e4 := T.d1 b hb'
  have u := mul_bnd (x := dv l a) (k := q - p) (M := 1800000) (K := 21600000) (by omega) (by omega) (by omega) (by omega) (by omega)
  have v := mul_bnd (x := dv l b - dv l a) (k := n % 21600000 - p) (M := 3600000) (K := 21600000) (by omega) (by omega) (by omega) (by omega) (by omega)
  refine ⟨?_, ?_, d0, d1, t0, t1, by omega, by omega, by omega, by omega⟩
  · rw [w.1]; unfold atLo aLo; rw [hka, hb, hg, ht]
  · rw [w.2]; unfold atHi aHi; rw [hka, hb, hg, ht]
/-- Ahead of the first entry. -/
theorem between_first {l : Tl} (T : Tab l) (hl : 2 ≤ l.length) {n : Int} (h : ∀ j, j < l.length → n % 21600000 < hd l j) : Between l n (dv l (l.length - 1)) (dv l 0) (hd l (l.length - 1) - 21600000) (hd l 0) := by
  have h0 := h 0 (by omega)
  have a0 := T.h0 0 (by omega); have a1 := T.h1 (l.length - 1) (by omega)
  have lt := T.lt (show l.length - 1 < l.length by omega) 0 (by omega)
  have nxl : nx l (l.length - 1) = 0 := by unfold nx; rw [show l.length - 1 + 1 = l.length by omega]; exact Nat.mod_self _
  have hgap : gapK l (l.length - 1) = hd l 0 - (hd l (l.length - 1) - 21600000) := by unfold gapK; rw [nxl]; omega
  exact between_of T (kx_none h) nxl (by omega) (by omega) hgap (by omega) (by omega) (by omega) (by omega) (by omega)
/-- Behind the last one. -/
theorem between_last {l : Tl} (T : Tab l) (hl : 2 ≤ l.length) {n : Int} (h : ∀ j, j < l.length → hd l j < n % 21600000) : Between l n (dv l (l.length - 1)) (dv l 0) (hd l (l.length - 1)) (hd l 0 + 21600000) := by
  have h0 := h (l.length - 1) (by omega)
  have a0 := T.h0 0 (by omega); have a1 := T.h1 (l.length - 1) (by omega)
  have lt := T.lt (show l.length - 1 < l.length by omega) 0 (by omega)
  have nxl : nx l (l.length - 1) = 0 := by unfold nx; rw [show l.length - 1 + 1 = l.length by omega]; exact Nat.mod_self _
  have hgap : gapK l (l.length - 1) = hd l 0 + 21600000 - hd l (l.length - 1) := by unfold gapK; rw [nxl]; omega
  exact between_of T (kx_eq T (by omega) (by omega) fun j j1 j2 => by omega) nxl (by omega) (by omega) hgap (by omega) (by omega) (by omega) (by omega) (by omega)
theorem between_mid {l : Tl} (T : Tab l) {n : Int} {i : Nat} (hi0 : 0 < i) (hi : i < l.length) (h1 : hd l (i - 1) < n % 21600000) (h2 : n % 21600000 < hd l i) : Between l n (dv l (i - 1)) (dv l i) (hd l (i - 1)) (hd l i) := by
  have a0 := T.h0 (i - 1) (by omega); have a1 := T.h1 i hi
  have nxl : nx l (i - 1) = i := by unfold nx; rw [show i - 1 + 1 = i by omega]; exact Nat.mod_eq_of_lt hi
  have hgap : gapK l (i - 1) = hd l i - hd l (i - 1) := by unfold gapK; rw [nxl]; omega
  exact between_of T (kx_eq T (by omega) (by omega) fun j j1 j2 => by
    by_cases e : j = i
    · subst e; omega
    · have := T.lt j2 i (by omega); omega) nxl (by omega) (by omega) hgap (by omega) (by omega) (by omega) (by omega) (by omega)

theorem lay_drew (w : World) (L : List (Obj ⊕ Ext)) : ∃ d, (lay w L).drew = lay w (.inr d :: L) := ⟨⟨#[], (lay w L).drew.drawn⟩, by
  show _ = bw (lay w L) _
  unfold bw World.drew; simp⟩
theorem tabs_lay {w : World} {v : Value} {l : Tl} (h : Tabs w v l) (L : List (Obj ⊕ Ext)) : Tabs (lay w L) v l := by
  obtain ⟨d, hd⟩ := lay_ex w L
  rw [hd]; exact h.bw d
theorem tmod_at {x m : Nat} {X : Int} (h : X = (x : Int)) (hx : x < m) : X.tmod m = x := by
  subst h; rw [Int.tmod_eq_emod_of_nonneg (by omega), Int.emod_eq_of_lt (by omega) (by omega)]
theorem tmod_over {x m : Nat} {X : Int} (h : X = (x : Int) + m) (hx : x < m) : X.tmod m = x := by
  subst h; rw [Int.tmod_eq_emod_of_nonneg (by omega), Int.add_emod_right, Int.emod_eq_of_lt (by omega) (by omega)]
set_option maxHeartbeats 4000000 in
theorem comp_at (v : Value) (l : Tl) (n : Int) (w : World) (hv : Tabs w v l) (T : Tab l) :
    Calls Try.prog 39 #[v, .int .i64 n] w fun e w' => e = .returned ((.agg #[.int .i64 (atLo l n), .int .i64 (atHi l n)])) ∧ ∃ d, w' = bw w d := by
  have hv0 := hv
  obtain ⟨a, cap, rfl, g1, k1⟩ := hv
  by_cases hz : l = []
  · subst hz
    have e := at_nil n
    rw [e.1, e.2]
    clear k1 hv0 T e
    refine lay_start ?_
    go_enter Try.func39, Try.ntmps39
    go_wp2
    exact bodyPost_ret (v := (.agg #[.int .i64 (0), .int .i64 (0)])) (by simp [results, Try.results39, go_sem]) rfl ⟨rfl, lay_ex _ _⟩
  · obtain ⟨b, o, rfl, s1, r1⟩ := k1 hz
    have hm0 : 0 < l.length := List.length_pos_iff.2 hz
    by_cases hone : l.length = 1
    · have e := at_one hone n
      rw [e.1, e.2]
      obtain ⟨f1, f2, -, -⟩ := r1 0 hm0
      simp only [Nat.zero_mul, Nat.add_zero] at f1 f2
      have f1' : (lay w []).cell? _ = _ := f1
      have f2' : (lay w []).cell? _ = _ := f2
      obtain ⟨p0, p1, p2, p3, -, -, -⟩ := cell_more f1'
      obtain ⟨q0, q1, q2, q3, -, -, -⟩ := cell_more f2'
      rw [hone]
      clear f1 f2 f1' f2' r1 k1 hv0 T hm0 hone g1 e hz
      refine lay_start ?_
      go_enter Try.func39, Try.ntmps39
      go_wp2_with fail
      refine region_bw_tail 9 (by kernel_rfl) (by kernel_rfl) ?_
      simp only [List.take_succ_cons, List.take_zero, List.drop_succ_cons, List.drop_zero]
      repeat (go_big_quiet_step ((first | fail)))
      refine wpQuiet_nil ?_
      rintro w' ⟨d, rfl⟩
      rw [lay_bw]
      go_wp2
      exact bodyPost_ret (v := (.agg #[.int .i64 (dv l 0), .int .i64 (dv l 0)])) (by simp [results, Try.results39, go_sem]) rfl ⟨rfl, lay_ex _ _⟩
    · have hs := fun j (hj : j < l.length) => T.lt hj
      have S := Lib.hid (fun L => comp_search (.slice (some ⟨b, o, none⟩) l.length cap) l (n % 21600000) (lay w L) (tabs_lay hv0 L) (by omega) T.len hs)
      have HT := Lib.hid T
      have HR := Lib.hid r1
      have h2 : 2 ≤ l.length := by omega
      have h72 : l.length ≤ 72 := T.len
      have HMD : ∃ m, m = l.length := ⟨_, rfl⟩
      obtain ⟨m, hm⟩ := HMD
      rw [← hm] at h2 h72 S HR
      rw [← hm]
      have HM := Lib.hid hm
      clear hv0 r1 k1 hs g1 hz hm0 hone T hm
      refine lay_start ?_
      go_enter Try.func39, Try.ntmps39
      go_wp2_with (go_at_call 29; refine (angle_Wrap _ _).mono ?_; rintro e w' ⟨rfl, rfl⟩)
      refine (S.out _).mono ?_
      rintro e w' ⟨i, hi, hlo, hhi, rfl, d, rfl⟩
      clear S
      rw [lay_bw]
      by_cases hf : i < m ∧ hd l i = n % 21600000
      · have hF : decide (i < m ∧ hd l i = n % 21600000) = true := decide_eq_true hf
        obtain ⟨f1, f2, -, -⟩ := HR.out i hf.1
        have f1' : (lay w []).cell? _ = _ := f1
        have f2' : (lay w []).cell? _ = _ := f2
        obtain ⟨p0, p1, p2, p3, -, -, -⟩ := cell_more f1'
        obtain ⟨q0, q1, q2, q3, -, -, -⟩ := cell_more f2'
        have e := at_entry HT.out (i := i) (by rw [← HM.out]; exact hf.1) n hf.2.symm
        have HE := Lib.hid e
        obtain ⟨hf1, hf2⟩ := hf
        clear f1 f2 f1' f2' e hlo hhi
        go_wp2_with fail
        refine region_bw_tail 11 (by kernel_rfl) (by kernel_rfl) ?_
        simp only [List.take_succ_cons, List.take_zero, List.drop_succ_cons, List.drop_zero]
        repeat (go_big_quiet_step ((first | fail)))
        refine wpQuiet_nil ?_
        rintro w' ⟨d, rfl⟩
        rw [lay_bw]
        go_wp2
        exact bodyPost_ret (v := (.agg #[.int .i64 (dv l i), .int .i64 (dv l i)])) (by simp [results, Try.results39, go_sem]) rfl ⟨by rw [HE.out.1, HE.out.2], lay_ex _ _⟩
      · have hF : decide (i < m ∧ hd l i = n % 21600000) = false := decide_eq_false hf
        have hmz : (m : Int) ≠ 0 := by omega
        have hmz2 : m ≠ 0 := by omega
        have hw1 : IntKind.i64.wrap ((i : Int) + (m : Int)) = (i : Int) + m := IntWalk.i64_in _ (by omega)
        have hw2 : IntKind.i64.wrap ((i : Int) + (m : Int) - 1) = (i : Int) + m - 1 := IntWalk.i64_in _ (by omega)
        by_cases hi0 : i = 0
        · subst hi0
          have hr1 : ((m : Int) - 1).tmod m = ((m - 1 : Nat) : Int) := tmod_at (by omega) (by omega)
          have hl1 : m - 1 < m := by omega
          have hl2 : 0 < m := by omega
          have B := between_first HT.out (by rw [← HM.out]; omega) (n := n) (fun j hj => by
            rw [← HM.out] at hj
            have a := hhi j (by omega) hj
            by_cases e : j = 0
            · subst e; omega
            · have := HT.out.lt (by rw [← HM.out]; exact hj) 0 (by omega)
              have := hhi 0 (by omega) (by omega)
              omega)
          rw [← HM.out] at B
          have bb := (HT.out.e1 0 (by rw [← HM.out]; omega)).bd
          obtain ⟨f1, f2, x1, x2⟩ := HR.out 0 (by omega)
          have f1' : (lay w []).cell? _ = _ := f1
          have f2' : (lay w []).cell? _ = _ := f2
          have bc := (HT.out.e1 (m - 1) (by rw [← HM.out]; omega)).bd
          obtain ⟨f3, f4, x3, x4⟩ := HR.out (m - 1) (by omega)
          have f3' : (lay w []).cell? _ = _ := f3
          have f4' : (lay w []).cell? _ = _ := f4
          try simp only [Nat.zero_mul, Nat.add_zero] at f1' f2'
          obtain ⟨p0, p1, p2, p3, p4, p5, p6⟩ := cell_more f1'
          obtain ⟨q0, q1, q2, q3, q4, q5, q6⟩ := cell_more f2'
          obtain ⟨r0, r1, r2, r3, r4, r5, r6⟩ := cell_more f3'
          obtain ⟨t0, t1, t2, t3, t4, t5, t6⟩ := cell_more f4'
          clear f1 f2 f1' f2' f3 f4 f3' f4' hlo hhi
          go_wp2_with fail
          obtain ⟨lo, hi', d0, d1, t0', t1', x0', x1', y0', y1'⟩ := B
          have hq := ediv_bd (a := -(dv l (m - 1) * (hd l 0 - (hd l (m - 1) - 21600000)) + (dv l 0 - dv l (m - 1)) * (n % 21600000 - (hd l (m - 1) - 21600000)))) (b := (hd l 0 - (hd l (m - 1) - 21600000))) (by omega) 9223372036854775807 (by decide) (by omega) (by omega); have LO := Lib.hid lo
          have HI := Lib.hid hi'
          clear lo hi'
          go_region
          all_goals (
            obtain ⟨e1, he1⟩ := lay_drew w _
            rw [he1]
            clear he1
            go_wp2_with (go_at_call 52; refine (comp_floor _ _ _ (by omega) (by omega) (by omega)).mono ?_; rintro e w' ⟨rfl, rfl⟩)
            exact bodyPost_ret (v := (.agg #[.int .i64 ((dv l (m - 1) * (hd l 0 - (hd l (m - 1) - 21600000)) + (dv l 0 - dv l (m - 1)) * (n % 21600000 - (hd l (m - 1) - 21600000))) / (hd l 0 - (hd l (m - 1) - 21600000))), .int .i64 (-((-(dv l (m - 1) * (hd l 0 - (hd l (m - 1) - 21600000)) + (dv l 0 - dv l (m - 1)) * (n % 21600000 - (hd l (m - 1) - 21600000)))) / (hd l 0 - (hd l (m - 1) - 21600000))))])) (by simp [results, Try.results39, go_sem]) rfl ⟨by rw [LO.out, HI.out], lay_ex _ _⟩)
        · by_cases him : i = m
          · subst him
            have hr1 : ((i : Int) + (i : Int) - 1).tmod i = ((i - 1 : Nat) : Int) := tmod_over (by omega) (by omega)
            have hr2 : (i : Int).tmod i = 0 := Int.tmod_self
            have hl1 : i - 1 < i := by omega
            have hl2 : 0 < i := by omega
            have B := between_last HT.out (by rw [← HM.out]; omega) (n := n) (fun j hj => by
              rw [← HM.out] at hj
              exact hlo j hj)
            rw [← HM.out] at B
            have bb := (HT.out.e1 0 (by rw [← HM.out]; omega)).bd
            obtain ⟨f1, f2, x1, x2⟩ := HR.out 0 (by omega)
            have f1' : (lay w []).cell? _ = _ := f1
            have f2' : (lay w []).cell? _ = _ := f2
            have bc := (HT.out.e1 (i - 1) (by rw [← HM.out]; omega)).bd
            obtain ⟨f3, f4, x3, x4⟩ := HR.out (i - 1) (by omega)
            have f3' : (lay w []).cell? _ = _ := f3
            have f4' : (lay w []).cell? _ = _ := f4
            try simp only [Nat.zero_mul, Nat.add_zero] at f1' f2'
            obtain ⟨p0, p1, p2, p3, p4, p5, p6⟩ := cell_more f1'
            obtain ⟨q0, q1, q2, q3, q4, q5, q6⟩ := cell_more f2'
            obtain ⟨r0, r1, r2, r3, r4, r5, r6⟩ := cell_more f3'
            obtain ⟨t0, t1, t2, t3, t4, t5, t6⟩ := cell_more f4'
            clear f1 f2 f1' f2' f3 f4 f3' f4' hlo hhi
            go_wp2_with fail
            obtain ⟨lo, hi', d0, d1, t0', t1', x0', x1', y0', y1'⟩ := B
            have hq := ediv_bd (a := -(dv l (i - 1) * ((hd l 0 + 21600000) - hd l (i - 1)) + (dv l 0 - dv l (i - 1)) * (n % 21600000 - hd l (i - 1)))) (b := ((hd l 0 + 21600000) - hd l (i - 1))) (by omega) 9223372036854775807 (by decide) (by omega) (by omega); have LO := Lib.hid lo
            have HI := Lib.hid hi'
            clear lo hi'
            go_region
            all_goals (
              obtain ⟨e1, he1⟩ := lay_drew w _
              rw [he1]
              clear he1
              go_wp2_with (go_at_call 52; refine (comp_floor _ _ _ (by omega) (by omega) (by omega)).mono ?_; rintro e w' ⟨rfl, rfl⟩)
              exact bodyPost_ret (v := (.agg #[.int .i64 ((dv l (i - 1) * ((hd l 0 + 21600000) - hd l (i - 1)) + (dv l 0 - dv l (i - 1)) * (n % 21600000 - hd l (i - 1))) / ((hd l 0 + 21600000) - hd l (i - 1))), .int .i64 (-((-(dv l (i - 1) * ((hd l 0 + 21600000) - hd l (i - 1)) + (dv l 0 - dv l (i - 1)) * (n % 21600000 - hd l (i - 1)))) / ((hd l 0 + 21600000) - hd l (i - 1))))])) (by simp [results, Try.results39, go_sem]) rfl ⟨by rw [LO.out, HI.out], lay_ex _ _⟩)
          · have him' : i < m := by omega
            have hr1 : ((i : Int) + (m : Int) - 1).tmod m = ((i - 1 : Nat) : Int) := tmod_over (by omega) (by omega)
            have hr2 : (i : Int).tmod m = i := tmod_at rfl him'
            have hl1 : i - 1 < m := by omega
            have B := between_mid HT.out (n := n) (i := i) (by omega) (by rw [← HM.out]; exact him') (hlo _ (by omega)) (by have := hhi i (by omega) him'; omega)
            have bb := (HT.out.e1 i (by rw [← HM.out]; omega)).bd
            obtain ⟨f1, f2, x1, x2⟩ := HR.out i (by omega)
            have f1' : (lay w []).cell? _ = _ := f1
            have f2' : (lay w []).cell? _ = _ := f2
            have bc := (HT.out.e1 (i - 1) (by rw [← HM.out]; omega)).bd
            obtain ⟨f3, f4, x3, x4⟩ := HR.out (i - 1) (by omega)
            have f3' : (lay w []).cell? _ = _ := f3
            have f4' : (lay w []).cell? _ = _ := f4
            try simp only [Nat.zero_mul, Nat.add_zero] at f1' f2'
            obtain ⟨p0, p1, p2, p3, p4, p5, p6⟩ := cell_more f1'
            obtain ⟨q0, q1, q2, q3, q4, q5, q6⟩ := cell_more f2'
            obtain ⟨r0, r1, r2, r3, r4, r5, r6⟩ := cell_more f3'
            obtain ⟨t0, t1, t2, t3, t4, t5, t6⟩ := cell_more f4'
            clear f1 f2 f1' f2' f3 f4 f3' f4' hlo hhi
            go_wp2_with fail
            obtain ⟨lo, hi', d0, d1, t0', t1', x0', x1', y0', y1'⟩ := B
            have hq := ediv_bd (a := -(dv l (i - 1) * (hd l i - hd l (i - 1)) + (dv l i - dv l (i - 1)) * (n % 21600000 - hd l (i - 1)))) (b := (hd l i - hd l (i - 1))) (by omega) 9223372036854775807 (by decide) (by omega) (by omega); have LO := Lib.hid lo
            have HI := Lib.hid hi'
            clear lo hi'
            go_region
            all_goals (
              obtain ⟨e1, he1⟩ := lay_drew w _
              rw [he1]
              clear he1
              go_wp2_with (go_at_call 52; refine (comp_floor _ _ _ (by omega) (by omega) (by omega)).mono ?_; rintro e w' ⟨rfl, rfl⟩)
              exact bodyPost_ret (v := (.agg #[.int .i64 ((dv l (i - 1) * (hd l i - hd l (i - 1)) + (dv l i - dv l (i - 1)) * (n % 21600000 - hd l (i - 1))) / (hd l i - hd l (i - 1))), .int .i64 (-((-(dv l (i - 1) * (hd l i - hd l (i - 1)) + (dv l i - dv l (i - 1)) * (n % 21600000 - hd l (i - 1)))) / (hd l i - hd l (i - 1))))])) (by simp [results, Try.results39, go_sem]) rfl ⟨by rw [LO.out, HI.out], lay_ex _ _⟩)
end Go.Proofs.Ytlkphcjlgbimkaa
