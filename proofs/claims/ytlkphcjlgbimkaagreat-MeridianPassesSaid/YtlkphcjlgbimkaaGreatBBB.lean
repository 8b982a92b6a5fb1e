/- Contracts and plain laws, several texts in one: Sub; Agr; Stp -/
import Derived.Test.YtlkphcjlgbimkaaGreatProg
import Derived.WalkKit
import Derived.WalkSpells
import Derived.WalkLawsBesides
import Derived.Lib.Hide
import Derived.BigQuiet
import Derived.Test.YtlkphcjlgbimkaaGreatBAA
import Derived.Test.YtlkphcjlgbimkaaGreatBAB
import Derived.Test.YtlkphcjlgbimkaaGreatBAE
import Derived.Test.YtlkphcjlgbimkaaGreatBAJ
import Derived.Test.YtlkphcjlgbimkaaGreatBAS
/- The value over a part of a span lies within the value over the span. No program in sight. -/
namespace Go.Proofs.YtlkphcjlgbimkaaGreat
open Go.RowKit

theorem hullL_le {l : List (Int × Int)} : ∀ y ∈ l, (hullL l).1 ≤ y.1 ∧ y.2 ≤ (hullL l).2 := by
  cases l with
  | nil => intro y hy; cases hy
  | cons x l =>
    have key : ∀ (l : List (Int × Int)) x, ((l.foldl hull2 x).1 ≤ x.1 ∧ x.2 ≤ (l.foldl hull2 x).2) ∧ ∀ y ∈ l, (l.foldl hull2 x).1 ≤ y.1 ∧ y.2 ≤ (l.foldl hull2 x).2 := by
      intro l
      induction l with
      | nil => exact fun x => ⟨⟨Int.le_refl _, Int.le_refl _⟩, fun y hy => by cases hy⟩
      | cons z l ih =>
        intro x
        obtain ⟨h1, h2⟩ := ih (hull2 x z)
        have e1 : (hull2 x z).1 ≤ x.1 ∧ (hull2 x z).1 ≤ z.1 ∧ x.2 ≤ (hull2 x z).2 ∧ z.2 ≤ (hull2 x z).2 := by unfold hull2; dsimp only; omega
        refine ⟨⟨by show (l.foldl hull2 (hull2 x z)).1 ≤ _; omega, by show _ ≤ (l.foldl hull2 (hull2 x z)).2; omega⟩, fun y hy => ?_⟩
        rcases List.mem_cons.1 hy with rfl | hy
        · exact ⟨by show (l.foldl hull2 (hull2 x y)).1 ≤ _; omega, by show _ ≤ (l.foldl hull2 (hull2 x y)).2; omega⟩
        · exact h2 y hy
    intro y hy
    rcases List.mem_cons.1 hy with rfl | hy
    · exact (key l y).1
    · exact (key l x).2 y hy
theorem ins_lin (A : Int → Int × Int) (h n : Int) (n0 : 0 ≤ n) (n1 : n ≤ 3600000) :
    insL A (h * 3600000 + n) = ((A h).1 * (3600000 - n) + (A (h + 1)).1 * n) / 3600000 ∧ insH A (h * 3600000 + n) = cdiv ((A h).2 * (3600000 - n) + (A (h + 1)).2 * n) 3600000 := by
  unfold insL insH
  by_cases e0 : n = 0
  · subst e0
    rw [if_pos (by omega), if_pos (by omega), show (h * 3600000 + 0) / 3600000 = h by omega]
    unfold cdiv; omega
  · by_cases e1 : n = 3600000
    · subst e1
      rw [if_pos (by omega), if_pos (by omega), show (h * 3600000 + 3600000) / 3600000 = h + 1 by omega]
      unfold cdiv; omega
    · rw [if_neg (by omega), if_neg (by omega), show (h * 3600000 + n) / 3600000 = h by omega, show (h * 3600000 + n) % 3600000 = n by omega]
      exact ⟨rfl, rfl⟩
theorem aff_ge {x0 x1 n n1 n2 : Int} (h1 : n1 ≤ n) (h2 : n ≤ n2) : x0 * (3600000 - n1) + x1 * n1 ≤ x0 * (3600000 - n) + x1 * n ∨ x0 * (3600000 - n2) + x1 * n2 ≤ x0 * (3600000 - n) + x1 * n := by
  rcases Int.le_total x0 x1 with h | h
  · left
    have := Int.mul_le_mul_of_nonneg_left h1 (show 0 ≤ x1 - x0 by omega)
    simp only [Int.mul_sub, Int.sub_mul] at *; omega
  · right
    have := Int.mul_le_mul_of_nonneg_left h2 (show 0 ≤ x0 - x1 by omega)
    simp only [Int.mul_sub, Int.sub_mul] at *; omega
theorem aff_le {x0 x1 n n1 n2 : Int} (h1 : n1 ≤ n) (h2 : n ≤ n2) : x0 * (3600000 - n) + x1 * n ≤ x0 * (3600000 - n1) + x1 * n1 ∨ x0 * (3600000 - n) + x1 * n ≤ x0 * (3600000 - n2) + x1 * n2 := by
  rcases Int.le_total x0 x1 with h | h
  · right
    have := Int.mul_le_mul_of_nonneg_left h2 (show 0 ≤ x1 - x0 by omega)
    simp only [Int.mul_sub, Int.sub_mul] at *; omega
  · left
    have := Int.mul_le_mul_of_nonneg_left h1 (show 0 ≤ x0 - x1 by omega)
    simp only [Int.mul_sub, Int.sub_mul] at *; omega
theorem ins_hour (A : Int → Int × Int) (h : Int) : insL A (h * 3600000) = (A h).1 ∧ insH A (h * 3600000) = (A h).2 := by
  unfold insL insH
  rw [if_pos (by omega), if_pos (by omega), show h * 3600000 / 3600000 = h by omega]; exact ⟨rfl, rfl⟩
theorem pcs_at (A : Int → Int × Int) {lo hi e : Int} (h1 : lo ≤ e) (h2 : e ≤ hi) (he : e = lo ∨ e = hi ∨ e % 3600000 = 0) : (hullL (pcs A lo hi)).1 ≤ insL A e ∧ insH A e ≤ (hullL (pcs A lo hi)).2 := by
  by_cases e1 : e = lo
  · subst e1; exact hullL_le (insL A e, insH A e) (by simp [pcs])
  · by_cases e2 : e = hi
    · subst e2; exact hullL_le (insL A e, insH A e) (by simp [pcs])
    · have e3 : e % 3600000 = 0 := by omega
      have hk := ins_hour A (e / 3600000)
      rw [show e / 3600000 * 3600000 = e by omega] at hk
      rw [hk.1, hk.2]
      refine hullL_le (A (e / 3600000)) (List.mem_append.2 (.inr (List.mem_map.2 ⟨(e / 3600000 - (lo / 3600000 + 1)).toNat, List.mem_range.2 ?_, ?_⟩)))
      · unfold nhr cdiv; omega
      · show A _ = _
        rw [show lo / 3600000 + 1 + ((e / 3600000 - (lo / 3600000 + 1)).toNat : Int) = e / 3600000 by omega]
theorem ins_sub (A : Int → Int × Int) {lo hi ms : Int} (h1 : lo ≤ ms) (h2 : ms ≤ hi) : (hullL (pcs A lo hi)).1 ≤ insL A ms ∧ insH A ms ≤ (hullL (pcs A lo hi)).2 := by
  obtain ⟨h, hh⟩ : ∃ h, ms / 3600000 = h := ⟨_, rfl⟩
  have k1 := pcs_at A (lo := lo) (hi := hi) (e := max lo (h * 3600000)) (by omega) (by omega) (by omega)
  have k2 := pcs_at A (lo := lo) (hi := hi) (e := min hi ((h + 1) * 3600000)) (by omega) (by omega) (by omega)
  obtain ⟨n1, hn1⟩ : ∃ n1, max lo (h * 3600000) = h * 3600000 + n1 := ⟨max lo (h * 3600000) - h * 3600000, by omega⟩
  obtain ⟨n2, hn2⟩ : ∃ n2, min hi ((h + 1) * 3600000) = h * 3600000 + n2 := ⟨min hi ((h + 1) * 3600000) - h * 3600000, by omega⟩
  obtain ⟨n, hn⟩ : ∃ n, ms = h * 3600000 + n := ⟨ms - h * 3600000, by omega⟩
  have l1 := ins_lin A h n1 (by omega) (by omega)
  have l2 := ins_lin A h n2 (by omega) (by omega)
  have l := ins_lin A h n (by omega) (by omega)
  rw [hn1, l1.1, l1.2] at k1
  rw [hn2, l2.1, l2.2] at k2
  rw [hn, l.1, l.2]
  have g1 := aff_ge (x0 := (A h).1) (x1 := (A (h + 1)).1) (n := n) (n1 := n1) (n2 := n2) (by omega) (by omega)
  have g2 := aff_le (x0 := (A h).2) (x1 := (A (h + 1)).2) (n := n) (n1 := n1) (n2 := n2) (by omega) (by omega)
  generalize (A h).1 * (3600000 - n) + (A (h + 1)).1 * n = X at *
  generalize (A h).1 * (3600000 - n1) + (A (h + 1)).1 * n1 = X1 at *
  generalize (A h).1 * (3600000 - n2) + (A (h + 1)).1 * n2 = X2 at *
  generalize (A h).2 * (3600000 - n) + (A (h + 1)).2 * n = Y at *
  generalize (A h).2 * (3600000 - n1) + (A (h + 1)).2 * n1 = Y1 at *
  generalize (A h).2 * (3600000 - n2) + (A (h + 1)).2 * n2 = Y2 at *
  unfold cdiv at *
  omega
theorem pcs_sub (A : Int → Int × Int) {lo hi f t : Int} (h1 : lo ≤ f) (h2 : f ≤ t) (h3 : t ≤ hi) : (hullL (pcs A lo hi)).1 ≤ (hullL (pcs A f t)).1 ∧ (hullL (pcs A f t)).2 ≤ (hullL (pcs A lo hi)).2 := by
  refine hullL_ind (P := fun x => (hullL (pcs A lo hi)).1 ≤ x.1 ∧ x.2 ≤ (hullL (pcs A lo hi)).2) (fun x y hx hy => by unfold hull2; dsimp only at *; omega) (pcs_ne _ _ _) fun y hy => ?_
  rcases pcs_mem hy with rfl | rfl | ⟨i, hi', rfl⟩
  · exact ins_sub A h1 (by omega)
  · exact ins_sub A (by omega) h3
  · have hk := ins_hour A (f / 3600000 + 1 + i)
    rw [← hk.1, ← hk.2]
    have := nhr_lt hi'
    exact ins_sub A (by omega) (by omega)
theorem ovr_sub (A : Int → Int × Int) {lo hi f t r : Int} (r0 : 0 ≤ r) (h1 : lo ≤ f) (h2 : f ≤ t) (h3 : t ≤ hi) : (ovr A lo hi r).1 ≤ (ovr A f t r).1 ∧ (ovr A f t r).2 ≤ (ovr A lo hi r).2 := by
  have k := pcs_sub A h1 h2 h3
  have m0 : 0 ≤ cdiv (100 * r) 8 := by unfold cdiv; omega
  unfold ovr
  by_cases c1 : lo = hi ∧ lo % 3600000 = 0
  · have : f = t ∧ f % 3600000 = 0 := by omega
    rw [if_pos c1, if_pos this]; exact k
  · rw [if_neg c1]
    split
    · dsimp only; omega
    · dsimp only; omega
def nearC (x0 y0 x1 y1 : Int) : Prop := 21600000 ≤ y1 - x1 ∨ (y1 - x1 < 21600000 ∧ y0 - x0 < 21600000 ∧ (x0 - x1) % 21600000 + y0 - x0 ≤ y1 - x1)
theorem turn_sub {x0 y0 x1 y1 : Int} (h1 : x1 ≤ x0) (h2 : x0 ≤ y0) (h3 : y0 ≤ y1) : nearC (turnLo x0 y0) (turnHi x0 y0) (turnLo x1 y1) (turnHi x1 y1) := by
  unfold nearC turnLo turnHi
  by_cases c : 21600000 ≤ y1 - x1
  · rw [if_pos c, if_pos c]; left; omega
  · rw [if_neg c, if_neg c, if_neg (by omega), if_neg (by omega)]; right
    omega
theorem turn_rng {x y : Int} (h : x ≤ y) : 0 ≤ turnLo x y ∧ turnLo x y ≤ turnHi x y ∧ turnHi x y ≤ 43200000 := by
  unfold turnLo turnHi; split <;> omega
end Go.Proofs.YtlkphcjlgbimkaaGreat
/- angle.Agree. -/
namespace Go.Proofs.YtlkphcjlgbimkaaGreat
open Go.RowKit

def agrB (a0 a1 b0 b1 : Int) : Bool := decide ((b0 - a0) % 21600000 ≤ a1 - a0) || decide ((a0 - b0) % 21600000 ≤ b1 - b0)
set_option maxHeartbeats 1000000 in
theorem angle_Agree (a0 a1 b0 b1 : Int) (w : World) (va : validB a0 a1 = true) (vb : validB b0 b1 = true) :
    Calls Tryz.prog 24 #[(.agg #[.int .i64 (a0), .int .i64 (a1)]), (.agg #[.int .i64 (b0), .int .i64 (b1)])] w fun e w' => e = .returned (.tuple #[.bool (agrB a0 a1 b0 b1), .int .i64 0]) ∧ ∃ d, w' = bw w d := by
  have HV1 : Hid (∀ W, Calls Tryz.prog 85 #[(.agg #[.int .i64 (a0), .int .i64 (a1)])] W fun e w' => e = .returned (.bool true) ∧ ∃ d, w' = bw W d) := Lib.hid (fun W => by rw [← va]; exact angle_Valid a0 a1 W)
  have HV2 : Hid (∀ W, Calls Tryz.prog 85 #[(.agg #[.int .i64 (b0), .int .i64 (b1)])] W fun e w' => e = .returned (.bool true) ∧ ∃ d, w' = bw W d) := Lib.hid (fun W => by rw [← vb]; exact angle_Valid b0 b1 W)
  obtain ⟨p0, p1, p2⟩ := validB_iff.1 va
  obtain ⟨p3, p4, p5⟩ := validB_iff.1 vb
  have w1 : IntKind.i64.wrap (b0 - a0) = b0 - a0 := IntWalk.i64_in _ (by omega)
  have w2 : IntKind.i64.wrap (a1 - a0) = a1 - a0 := IntWalk.i64_in _ (by omega)
  have w3 : IntKind.i64.wrap (a0 - b0) = a0 - b0 := IntWalk.i64_in _ (by omega)
  have w4 : IntKind.i64.wrap (b1 - b0) = b1 - b0 := IntWalk.i64_in _ (by omega)
  have HW1 := Lib.hid (fun W => angle_Wrap (b0 - a0) W)
  have HW2 := Lib.hid (fun W => angle_Wrap (a0 - b0) W)
  unfold agrB
  clear va vb
  by_cases h1 : (b0 - a0) % 21600000 ≤ a1 - a0
  · have t1 : decide ((b0 - a0) % 21600000 ≤ a1 - a0) = true := decide_eq_true h1
    rw [t1, Bool.true_or]
    clear h1
    generalize (b0 - a0) % 21600000 = X at *
    refine lay_start ?_
    go_enter Tryz.func24, Tryz.ntmps24
    go_wp2_with (go_at_call 85; first | (with_reducible refine (HV1.out _).mono ?_; rintro e w' ⟨rfl, d, rfl⟩) | (with_reducible refine (HV2.out _).mono ?_; rintro e w' ⟨rfl, d, rfl⟩))
    refine region_bw (by kernel_rfl) (by kernel_rfl) ?_
    repeat (go_big_quiet_step ((first | (go_at_call 86; exact bqs (HW1.out _) ⟨_, rfl⟩))))
    refine wpQuiet_nil ?_
    rintro w' ⟨d, rfl⟩
    rw [lay_bw]
    go_wp2
    go_ret2
    exact ⟨rfl, lay_ex _ _⟩
  · have t1 : decide ((b0 - a0) % 21600000 ≤ a1 - a0) = false := decide_eq_false h1
    rw [t1, Bool.false_or]
    clear h1
    generalize (b0 - a0) % 21600000 = X at *
    generalize (a0 - b0) % 21600000 = Y at *
    refine lay_start ?_
    go_enter Tryz.func24, Tryz.ntmps24
    go_wp2_with (go_at_call 85; first | (with_reducible refine (HV1.out _).mono ?_; rintro e w' ⟨rfl, d, rfl⟩) | (with_reducible refine (HV2.out _).mono ?_; rintro e w' ⟨rfl, d, rfl⟩))
    refine region_bw (by kernel_rfl) (by kernel_rfl) ?_
    repeat (go_big_quiet_step ((first | (go_at_call 86; first | (with_reducible refine bqs (HW1.out _) ?_; exact ⟨_, rfl⟩) | (with_reducible refine bqs (HW2.out _) ?_; exact ⟨_, rfl⟩)))))
    refine wpQuiet_nil ?_
    rintro w' ⟨d, rfl⟩
    rw [lay_bw]
    go_wp2
    go_ret2
    exact ⟨rfl, lay_ex _ _⟩
end Go.Proofs.YtlkphcjlgbimkaaGreat
/- Plain law: a star goes with Aries, and is where it was after a sidereal day. No program in sight. -/
namespace Go.Proofs.YtlkphcjlgbimkaaGreat

theorem fl_up {V u K T : Int} (hu : 0 < u) (h1 : K ≤ T * u) (h2 : T * u - u ≤ K) : V / u + T - 1 ≤ (V + K) / u ∧ (V + K) / u ≤ V / u + T := by
  have e1 : (V + T * u) / u = V / u + T := Int.add_mul_ediv_right V T (by omega)
  have e2 : (V + (T - 1) * u) / u = V / u + (T - 1) := Int.add_mul_ediv_right V (T - 1) (by omega)
  have k1 : (V + K) / u ≤ (V + T * u) / u := Int.ediv_le_ediv hu (by omega)
  have k2 : (V + (T - 1) * u) / u ≤ (V + K) / u := Int.ediv_le_ediv hu (by rw [Int.sub_mul]; omega)
  omega
theorem cl_up {V u K T : Int} (hu : 0 < u) (h1 : T * u ≤ K) (h2 : K ≤ T * u + u) : (-V) / u - T - 1 ≤ (-(V + K)) / u ∧ (-(V + K)) / u ≤ (-V) / u - T := by
  have e1 : (-V + (-T) * u) / u = -V / u + -T := Int.add_mul_ediv_right (-V) (-T) (by omega)
  have e2 : (-V + (-T - 1) * u) / u = -V / u + (-T - 1) := Int.add_mul_ediv_right (-V) (-T - 1) (by omega)
  have k1 : (-(V + K)) / u ≤ (-V + (-T) * u) / u := Int.ediv_le_ediv hu (by rw [Int.neg_mul]; omega)
  have k2 : (-V + (-T - 1) * u) / u ≤ (-(V + K)) / u := Int.ediv_le_ediv hu (by rw [Int.sub_mul, Int.neg_mul]; omega)
  omega
theorem cl_of {V u : Int} (hu : 0 < u) : (if 0 < V % u then V / u + 1 else V / u) = -((-V) / u) := by
  have h := Int.emod_add_mul_ediv V u
  have h0 := Int.emod_nonneg V (by omega : u ≠ 0)
  have h1 := Int.emod_lt_of_pos V hu
  split
  · have : (-V) / u = -(V / u) - 1 := by
      rw [Int.ediv_eq_iff_of_pos hu, Int.sub_mul, Int.neg_mul, Int.mul_comm (V / u) u]; omega
    omega
  · have : (-V) / u = -(V / u) := by
      rw [Int.ediv_eq_iff_of_pos hu, Int.neg_mul, Int.mul_comm (V / u) u]; omega
    omega
theorem ariU_eq (t : Int) : ariU t = 5998067 - (-(ariV t)) / 86400000000000 := by
  have h := cl_of (V := ariV t) (u := 86400000000000) (by decide)
  unfold ariU ariF ariR
  by_cases hp : 0 < ariV t % 86400000000000
  · rw [if_pos hp] at h ⊢; omega
  · rw [if_neg hp] at h ⊢; omega
theorem ari_next (t : Int) : ariF t + 21600000 - 1 ≤ ariF (t + 86164090) ∧ ariF (t + 86164090) ≤ ariF t + 21600000 ∧ ariU t + 21600000 ≤ ariU (t + 86164091) ∧ ariU (t + 86164091) ≤ ariU t + 21600000 + 1 := by
  have v0 : ariV (t + 86164090) = ariV t + 86164090 * 21659138841977 := by unfold ariV; rw [Int.add_mul]; omega
  have v1 : ariV (t + 86164091) = ariV t + 86164091 * 21659138841977 := by unfold ariV; rw [Int.add_mul]; omega
  rw [ariU_eq, ariU_eq, v1]
  unfold ariF
  rw [v0]
  have a := fl_up (V := ariV t) (u := 86400000000000) (K := 86164090 * 21659138841977) (T := 21600000) (by decide) (by decide) (by decide)
  have b := cl_up (V := ariV t) (u := 86400000000000) (K := 86164091 * 21659138841977) (T := 21600000) (by decide) (by decide) (by decide)
  obtain ⟨a1, a2⟩ := a
  obtain ⟨b1, b2⟩ := b
  generalize (ariV t + 86164090 * 21659138841977) / 86400000000000 = p at *
  generalize (-(ariV t + 86164091 * 21659138841977)) / 86400000000000 = q at *
  generalize ariV t / 86400000000000 = r at *
  generalize (-ariV t) / 86400000000000 = s at *
  omega
theorem ari_one (t : Int) : ariF t ≤ ariU t ∧ ariU t ≤ ariF t + 1 := by unfold ariU; split <;> omega
/-- The star at an instant. -/
theorem star_now (t sha : Int) :
    (∃ A W, 0 ≤ A ∧ A < 21600000 ∧ 0 ≤ W ∧ W ≤ 1 ∧ agL t t = A ∧ agH t t = A + W ∧ A = ariF t % 21600000 ∧ sgL t t sha = (A + (100 * sha - 50)) % 21600000 ∧ sgH t t sha = (A + (100 * sha - 50)) % 21600000 + W + 100) := by
  have := ari_one t
  have hA : agL t t = ariF t % 21600000 := by unfold agL turnLo; rw [if_neg (by omega)]
  have hH : agH t t = ariF t % 21600000 + (ariU t - ariF t) := by unfold agH turnHi; rw [if_neg (by omega)]
  refine ⟨ariF t % 21600000, ariU t - ariF t, by omega, by omega, by omega, by omega, hA, hH, rfl, ?_, ?_⟩
  · unfold sgL turnLo; rw [hA, hH, if_neg (by omega)]
  · unfold sgH turnHi; rw [hA, hH, if_neg (by omega)]; omega
theorem stars_go (t sha : Int) : agrB (sgL t t sha + -(agH t t)) (sgH t t sha + -(agL t t)) (100 * sha) (100 * sha) = true ∧ validB (sgL t t sha + -(agH t t)) (sgH t t sha + -(agL t t)) = true := by
  obtain ⟨A, W, a0, a1, w0, w1, e1, e2, e3, e4, e5⟩ := star_now t sha
  rw [e1, e2, e4, e5]
  clear e1 e2 e3 e4 e5
  constructor
  · unfold agrB
    rw [Bool.or_eq_true, decide_eq_true_eq, decide_eq_true_eq]
    left
    omega
  · rw [validB_iff]; omega
theorem stars_again (t sha : Int) : agrB (sgL t t sha) (sgH t t sha) (sgL (t + 86164090) (t + 86164091) sha) (sgH (t + 86164090) (t + 86164091) sha) = true := by
  obtain ⟨A, W, a0, a1, w0, w1, -, -, e3, e4, e5⟩ := star_now t sha
  obtain ⟨n1, n2, n3, n4⟩ := ari_next t
  have n5 := ari_one t
  have hA : agL (t + 86164090) (t + 86164091) = ariF (t + 86164090) % 21600000 := by unfold agL turnLo; rw [if_neg (by omega)]
  have hH : agH (t + 86164090) (t + 86164091) = ariF (t + 86164090) % 21600000 + (ariU (t + 86164091) - ariF (t + 86164090)) := by unfold agH turnHi; rw [if_neg (by omega)]
  have hl : sgL (t + 86164090) (t + 86164091) sha = (ariF (t + 86164090) % 21600000 + (100 * sha - 50)) % 21600000 := by unfold sgL turnLo; rw [hA, hH, if_neg (by omega)]
  have hh : sgH (t + 86164090) (t + 86164091) sha = (ariF (t + 86164090) % 21600000 + (100 * sha - 50)) % 21600000 + (ariU (t + 86164091) - ariF (t + 86164090)) + 100 := by unfold sgH turnHi; rw [hA, hH, if_neg (by omega)]; omega
  rw [hl, hh, e4, e5, e3]
  generalize ariF (t + 86164090) = F' at *
  generalize ariU (t + 86164091) = U' at *
  generalize ariF t = F at *
  generalize ariU t = U at *
  clear hl hh hA hH e4 e5 e3
  unfold agrB
  rw [Bool.or_eq_true, decide_eq_true_eq, decide_eq_true_eq]
  right
  omega
end Go.Proofs.YtlkphcjlgbimkaaGreat
