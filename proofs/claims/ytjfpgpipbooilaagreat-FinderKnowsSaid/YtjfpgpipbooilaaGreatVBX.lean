/- Contracts and plain laws, several texts in one: FeA; Fk1; Fk2; Fk3 -/
import Derived.Test.YtjfpgpipbooilaaGreatProg
import Derived.WalkKit
import Derived.WalkSpells
import Derived.WalkLawsBesides
import Derived.Lib.Hide
import Derived.BigQuiet
import Derived.Test.YtjfpgpipbooilaaGreatVAA
import Derived.Test.YtjfpgpipbooilaaGreatVAB
import Derived.Test.YtjfpgpipbooilaaGreatVAP
import Derived.Test.YtjfpgpipbooilaaGreatVAQ
import Derived.Test.YtjfpgpipbooilaaGreatVBU
import Derived.Test.YtjfpgpipbooilaaGreatVBV
import Derived.Test.YtjfpgpipbooilaaGreatVBW
/- The example of chapter 51 (awake). -/
namespace Go.Proofs.YtjfpgpipbooilaaGreat
open Go.RowKit Go.Shelf

theorem pgsD_nilQ {P : Nat → Prop} {w : World} : PgsD P w (.slice none 0 0) [] := ⟨[], SlG.nil pgR w, (fun b o n c e _ => by cases e), rfl, fun i x p h => by simp at h⟩
theorem law51_point (n : Int) (w : World) : Calls Tryz.prog 18 #[.int .i64 n] w fun e w' => e = .returned (.agg #[.int .i64 (n), .int .i64 (n)]) ∧ ∃ d, w' = bw w d := by
  refine lay_start ?_
  go_enter Tryz.func18, Tryz.ntmps18
  go_wp2
  exact bodyPost_ret (v := (.agg #[.int .i64 (n), .int .i64 (n)])) (by simp [results, Tryz.results18, go_sem]) rfl ⟨rfl, lay_ex _ _⟩
theorem eg_Parallactic (w : World) : Calls Tryz.prog 21 #[(.agg #[.int .i64 (0), .int .i64 (0), .int .i64 (0), .int .i64 (0), .int .i64 (3600000), .int .i64 (3600000)])] w fun e w' => e = .returned (.tuple #[(.agg #[.int .i64 (5400000), .int .i64 (5400000)]), .int .i64 0]) ∧ ∃ d, w' = bw w d := by
  have := fn_Parallactic 0 0 0 0 3600000 3600000 w (by decide)
  rw [pa_eg] at this
  exact this
theorem eg_Unknown (w : World) : Calls Tryz.prog 22 #[(.agg #[.int .i64 (0), .int .i64 (0)]), (.agg #[.int .i64 (1800000), .int .i64 (1800000)]), (.agg #[.int .i64 (16200000), .int .i64 (16200000)]), (.agg #[.int .i64 (1200000), .int .i64 (1200000)]), (.agg #[.int .i64 (0), .int .i64 (0)])] w fun e w' => e = .returned (.tuple #[(.agg #[.int .i64 (2399999), .int .i64 (2400001)]), (.agg #[.int .i64 (0), .int .i64 (0)]), .int .i64 0]) ∧ ∃ d, w' = bw w d := by
  have := fn_Unknown 0 0 1800000 1800000 16200000 16200000 1200000 1200000 0 0 3599999 3600001 3599999 3600001 2399999 2400001 w (by decide) (by decide) (by decide) az_eg (by decide) (by decide)
  rw [al_eg.1, al_eg.2, show turnLo 2399999 2400001 = 2399999 by decide, show turnHi 2399999 2400001 = 2400001 by decide] at this
  exact this
set_option maxHeartbeats 4000000 in
set_option maxRecDepth 100000 in
theorem law51_awake (w : World) : Calls Tryz.prog 5 #[] w fun e w' => e = .returned (.bool true) ∧ ∃ d, w' = bw w d := by
  have HP := Lib.hid (fun n W => law51_point n W)
  have HA := Lib.hid (fun W => eg_Parallactic W)
  have HU := Lib.hid (fun W => eg_Unknown W)
  refine lay_start ?_
  go_enter Tryz.func5, Tryz.ntmps5
  go_wp2_with fail
  refine (HP.out _ _).mono ?_
  rintro e w' ⟨rfl, p1, rfl⟩
  rw [lay_bw]
  go_wp2_with fail
  refine (HA.out _).mono ?_
  rintro e w' ⟨rfl, dA, rfl⟩
  rw [lay_bw]
  go_wp2_with fail
  refine (HP.out _ _).mono ?_
  rintro e w' ⟨rfl, p2, rfl⟩
  rw [lay_bw]
  go_wp2_with fail
  refine (HP.out _ _).mono ?_
  rintro e w' ⟨rfl, p3, rfl⟩
  rw [lay_bw]
  go_wp2_with fail
  refine (HP.out _ _).mono ?_
  rintro e w' ⟨rfl, p4, rfl⟩
  rw [lay_bw]
  go_wp2_with fail
  refine (HP.out _ _).mono ?_
  rintro e w' ⟨rfl, p5, rfl⟩
  rw [lay_bw]
  go_wp2_with fail
  refine (HP.out _ _).mono ?_
  rintro e w' ⟨rfl, p6, rfl⟩
  rw [lay_bw]
  go_wp2_with fail
  refine (HU.out _).mono ?_
  rintro e w' ⟨rfl, dU, rfl⟩
  rw [lay_bw]
  go_wp2_with fail
  refine (alm_New_yes (P := fun _ => False) (.slice none 0 0) _ [] [vegaV] _ pgsD_nilQ (fun _ h => h.elim) (vega_lit w [.inl (.cells #[.int .i64 0, .int .i64 0] 26 (0, 0)), .inl (.cells #[.int .i64 2399999, .int .i64 2400001] 26 (0, 0)), .inr dU, .inr p6, .inr p5, .inr p4, .inr p3, .inr p2, .inl (.cells #[.int .i64 5400000, .int .i64 5400000] 26 (0, 0)), .inr dA, .inr p1]) vega_new).mono ?_
  rintro e w' ⟨bk, d1, rfl, rfl, hB⟩
  rw [lay_bw] at hB ⊢
  have HSk := fn_SkyB hB vega_ok (a := 0) (b := 0) (u := 0) (v := 0) (x := 0) (y := 0) (by decide) (by decide) (by decide)
  obtain ⟨z, hz, hzs⟩ := vega_sky
  have HS := Lib.hid (fun W' hW => HSk.out W' (-5400000) hW (by decide) (by decide))
  rw [hz] at HS
  have HZ := Lib.hid hzs
  clear hB HSk hz hzs
  go_wp2_with fail
  refine region_bw (by kernel_rfl) (by kernel_rfl) ?_
  repeat (go_big_quiet_step ((first | (go_at_call 18; first | exact bq (HP.out _ _) (fun d => ⟨d, rfl⟩) | exact bq (HP.out _ _) (fun d => lay_join _ _ _ d)))))
  refine wpQuiet_nil ?_
  rintro w' ⟨d, rfl⟩
  rw [lay_bw]
  go_wp2_with fail
  refine (HS.out _ (lay_belowG (A := [_]))).mono ?_
  rintro e w' ⟨vs, d2, rfl, rfl, hO⟩
  rw [lay_bw] at hO ⊢
  simp only [List.cons_append, List.nil_append] at hO ⊢
  obtain ⟨g, c, rfl, -, -, -⟩ := hO.form1 (by simp)
  have hc := hO.cell seenOk (i := 0) (x := z) rfl (j := 0) (u := .string z.s) rfl
  rw [HZ.out] at hc
  have e0 : 0 * seenR.k + 0 = 0 := by simp
  rw [e0] at hc
  simp only [List.length_cons, List.length_nil, Nat.zero_add]
  go_wp2_with fail
  go_ret
  exact ⟨by simp [vega_list], lay_ex _ _⟩
end Go.Proofs.YtjfpgpipbooilaaGreat
/- Directions in order: the bisection grows with the direction; three points in a half-plane. No function of the program. -/
namespace Go.Proofs.YtjfpgpipbooilaaGreat
open Go.RowKit

theorem coA_nn {k : Nat} (h0 : 0 < k) (hk : k < 5400000) : 0 ≤ coA k := by
  rcases Int.lt_or_le (coA k) 0 with h | h
  · exfalso
    obtain ⟨n1, n2⟩ := (siA_near (k := k) (by omega)).2
    obtain ⟨b1, b2⟩ := (back_q k).1
    have z := zS_min (m := 5400000 - (k : Int)) (by omega) (by omega)
    have e : zS ((k : Int) - 5400000) = -(zS (5400000 - (k : Int))) := by rw [← zS_neg]; congr 1; omega
    have hd : (coA k : Rat) / (m192 : Rat) ≤ 0 := by
      have := div_mono (Int.le_of_lt h)
      have e0 : ((0 : Int) : Rat) / (m192 : Rat) = 0 := by rw [Rat.intCast_zero, Rat.div_def, Rat.zero_mul]
      rw [e0] at this
      exact this
    rw [e] at b1 b2
    unfold eA at n2
    unfold e60 at b2
    grind
  · exact h
theorem le_cancel {a b u : Int} (hu : 0 < u) (h : a * u ≤ b * u) : a ≤ b := Int.le_of_mul_le_mul_right h hu
theorem rch_mono {u v u' v' : Int} {k : Nat} (hk : k < 5400000) (hu : 0 < u) (hu' : 0 < u') (h : v * u' ≤ v' * u) (hr : rchB u v k = true) : rchB u' v' k = true := by
  unfold rchB at *
  by_cases k0 : k = 0
  · rw [if_pos k0]
  · rw [if_neg k0] at hr ⊢
    by_cases k1 : k = 2700000
    · rw [if_pos k1, decide_eq_true_eq] at hr ⊢
      have h1 := Int.mul_le_mul_of_nonneg_right hr (Int.le_of_lt hu')
      refine le_cancel hu ?_
      have e : u' * u = u * u' := Int.mul_comm _ _
      omega
    · rw [if_neg k1, decide_eq_true_eq] at hr ⊢
      have hc := coA_nn (k := k) (by omega) hk
      have h1 := Int.mul_le_mul_of_nonneg_right hr (Int.le_of_lt hu')
      have h2 := Int.mul_le_mul_of_nonneg_left h hc
      generalize siA k = A at *
      generalize coA k = C at *
      refine le_cancel hu ?_
      have e1 : A * u' * u = A * u * u' := by grind
      have e2 : C * (v * u') = C * v * u' := by grind
      have e3 : C * (v' * u) = C * v' * u := by grind
      omega
theorem bisF_ge {u v : Int} : ∀ {f l h : Nat}, l ≤ bisF u v f l h
  | 0, l, h => Nat.le_refl _
  | f + 1, l, h => by
    unfold bisF
    split
    · split
      · have := bisF_ge (u := u) (v := v) (f := f) (l := (l + h) / 2) (h := h)
        omega
      · exact bisF_ge
    · exact Nat.le_refl _
theorem bisF_mono {u v u' v' : Int} (hr : ∀ k, k < 5400000 → rchB u v k = true → rchB u' v' k = true) : ∀ {f l h : Nat}, h ≤ 5400000 → bisF u v f l h ≤ bisF u' v' f l h
  | 0, l, h, _ => Nat.le_refl _
  | f + 1, l, h, hh => by
    unfold bisF
    by_cases c : l + 1 < h
    · rw [if_pos c, if_pos c]
      have hm := hr ((l + h) / 2) (by omega)
      cases c1 : rchB u v ((l + h) / 2)
      · rw [if_neg Bool.false_ne_true]
        cases c2 : rchB u' v' ((l + h) / 2)
        · rw [if_neg Bool.false_ne_true]
          exact bisF_mono hr (by omega)
        · rw [if_pos rfl]
          have h1 := bisF_lt (u := u) (v := v) (f := f) (l := l) (h := (l + h) / 2) (by omega)
          have h2 := bisF_ge (u := u') (v := v') (f := f) (l := (l + h) / 2) (h := h)
          omega
      · rw [hm c1, if_pos rfl, if_pos rfl]
        exact bisF_mono hr hh
    · rw [if_neg c, if_neg c]; exact Nat.le_refl _
def qx (q u v : Int) : Int := if q = 0 then u else if q = 1 then -v else if q = 2 then -u else v
def qy (q u v : Int) : Int := if q = 0 then v else if q = 1 then u else if q = 2 then -v else -u
structure QuadP (X Y : Int) (q u v : Int) (k : Nat) : Prop where
  q0 : 0 ≤ q
  q3 : q ≤ 3
  u0 : 0 < u
  v0 : 0 ≤ v
  x : X = qx q u v
  y : Y = qy q u v
  kv : k = bisF u v 23 0 5400000
  ang : (angF X Y).1 = 5400000 * q + (k : Int)
theorem quad_ex {X Y : Int} (h : ¬ (X = 0 ∧ Y = 0)) : ∃ q u v k, QuadP X Y q u v k := by
  by_cases c0 : 0 < X ∧ 0 ≤ Y
  · exact ⟨0, X, Y, _, ⟨by decide, by decide, c0.1, c0.2, by simp [qx], by simp [qy], rfl, by unfold angF; rw [if_pos c0]; rfl⟩⟩
  · by_cases c1 : 0 < Y ∧ X ≤ 0
    · exact ⟨1, Y, -X, _, ⟨by decide, by decide, c1.1, by omega, by simp [qx], by simp [qy], rfl, by unfold angF; rw [if_neg c0, if_pos c1]; rfl⟩⟩
    · by_cases c2 : X < 0 ∧ Y ≤ 0
      · exact ⟨2, -X, -Y, _, ⟨by decide, by decide, by omega, by omega, by simp [qx], by simp [qy], rfl, by unfold angF; rw [if_neg c0, if_neg c1, if_pos c2]; rfl⟩⟩
      · exact ⟨3, -Y, X, _, ⟨by decide, by decide, by omega, by omega, by simp [qx], by simp [qy], rfl, by unfold angF; rw [if_neg c0, if_neg c1, if_neg c2]; rfl⟩⟩
theorem QuadP.lt {X Y q u v : Int} {k : Nat} (h : QuadP X Y q u v k) : k < 5400000 := by rw [h.kv]; exact bisF_lt (by decide)
def crs (X Y X' Y' : Int) : Int := X * Y' - Y * X'
theorem crs_quad {X Y X' Y' q a b q' c d : Int} {k k' : Nat} (h : QuadP X Y q a b k) (g : QuadP X' Y' q' c d k') :
    ((q' - q) % 4 = 0 → crs X Y X' Y' = a * d - b * c) ∧ ((q' - q) % 4 = 1 → crs X Y X' Y' = a * c + b * d) ∧ ((q' - q) % 4 = 2 → crs X Y X' Y' = -(a * d - b * c)) ∧ ((q' - q) % 4 = 3 → crs X Y X' Y' = -(a * c + b * d)) := by
  have h0 := h.q0
  have h3 := h.q3
  have g0 := g.q0
  have g3 := g.q3
  have hx := h.x
  have hy := h.y
  have gx := g.x
  have gy := g.y
  have hq : q = 0 ∨ q = 1 ∨ q = 2 ∨ q = 3 := by omega
  have gq : q' = 0 ∨ q' = 1 ∨ q' = 2 ∨ q' = 3 := by omega
  clear h g h0 h3 g0 g3
  unfold crs
  rcases hq with rfl | rfl | rfl | rfl <;> rcases gq with rfl | rfl | rfl | rfl
  all_goals
    simp only [qx, qy, Int.reduceEq, ↓reduceIte] at hx hy gx gy
    subst hx hy gx gy
    refine ⟨fun h => ?_, fun h => ?_, fun h => ?_, fun h => ?_⟩ <;> first | (exfalso; revert h; decide) | grind
theorem crs_trans {X Y X' Y' X'' Y'' α β : Int} (h1 : 0 < α * X + β * Y) (h2 : 0 < α * X' + β * Y') (h3 : 0 < α * X'' + β * Y'') (c1 : 0 ≤ crs X Y X' Y') (c2 : 0 ≤ crs X' Y' X'' Y'') : 0 ≤ crs X Y X'' Y'' := by
  have m1 := Int.mul_nonneg c1 (Int.le_of_lt h3)
  have m2 := Int.mul_nonneg c2 (Int.le_of_lt h1)
  have e : crs X Y X'' Y'' * (α * X' + β * Y') = crs X Y X' Y' * (α * X'' + β * Y'') + crs X' Y' X'' Y'' * (α * X + β * Y) := by unfold crs; grind
  refine le_cancel h2 ?_
  rw [Int.zero_mul, e]
  omega
theorem same_quad {a b c d : Int} {k k' : Nat} (ha : 0 < a) (hc : 0 < c) (hk : k = bisF a b 23 0 5400000) (hk' : k' = bisF c d 23 0 5400000) (h : b * c ≤ d * a) : k ≤ k' := by
  rw [hk, hk']
  exact bisF_mono (fun k hk hr => rch_mono hk ha hc h hr) (Nat.le_refl _)
theorem ang_three {X Y X' Y' X'' Y'' α β : Int} (h1 : 0 < α * X + β * Y) (h2 : 0 < α * X' + β * Y') (h3 : 0 < α * X'' + β * Y'') (c1 : 0 ≤ crs X Y X' Y') (c2 : 0 ≤ crs X' Y' X'' Y'') :
    ((angF X' Y').1 - (angF X Y).1) % 21600000 ≤ ((angF X'' Y'').1 - (angF X Y).1) % 21600000 := by
  have c3 := crs_trans h1 h2 h3 c1 c2
  obtain ⟨q, a, b, k, P⟩ := quad_ex (X := X) (Y := Y) (by rintro ⟨rfl, rfl⟩; simp at h1)
  obtain ⟨q', c, d, k', P'⟩ := quad_ex (X := X') (Y := Y') (by rintro ⟨rfl, rfl⟩; simp at h2)
  obtain ⟨q'', e, g, k'', P''⟩ := quad_ex (X := X'') (Y := Y'') (by rintro ⟨rfl, rfl⟩; simp at h3)
  obtain ⟨r0, r1, r2, r3⟩ := crs_quad P P'
  obtain ⟨s0, s1, s2, s3⟩ := crs_quad P' P''
  obtain ⟨t0, t1, t2, t3⟩ := crs_quad P P''
  have a0 := P.u0
  have b0 := P.v0
  have c0 := P'.u0
  have d0 := P'.v0
  have e0 := P''.u0
  have g0 := P''.v0
  have l1 := P.lt
  have l2 := P'.lt
  have l3 := P''.lt
  have p1 := Int.mul_pos a0 c0
  have p2 := Int.mul_nonneg b0 d0
  have p3 := Int.mul_pos c0 e0
  have p4 := Int.mul_nonneg d0 g0
  have p5 := Int.mul_pos a0 e0
  have p6 := Int.mul_nonneg b0 g0
  have n1 : (q' - q) % 4 ≠ 3 := fun h => by have := r3 h; omega
  have n2 : (q'' - q') % 4 ≠ 3 := fun h => by have := s3 h; omega
  have n3 : (q'' - q) % 4 ≠ 3 := fun h => by have := t3 h; omega
  have k1 : (q' - q) % 4 = 0 → k ≤ k' := fun h => same_quad a0 c0 P.kv P'.kv (by have := r0 h; have e1 : d * a = a * d := Int.mul_comm _ _; omega)
  have k2 : (q'' - q') % 4 = 0 → k' ≤ k'' := fun h => same_quad c0 e0 P'.kv P''.kv (by have := s0 h; have e1 : g * c = c * g := Int.mul_comm _ _; omega)
  have k3 : (q'' - q) % 4 = 0 → k ≤ k'' := fun h => same_quad a0 e0 P.kv P''.kv (by have := t0 h; have e1 : g * a = a * g := Int.mul_comm _ _; omega)
  have n4 : ¬ ((q' - q) % 4 = 2 ∧ (q'' - q') % 4 = 2) := by
    rintro ⟨x1, x2⟩
    have y1 := r2 x1
    have y2 := s2 x2
    have y3 := t0 (by omega)
    have z1 : a * d ≤ b * c := by omega
    have z2 : c * g ≤ d * e := by omega
    have z3 : b * e ≤ a * g := by omega
    have w2 := Int.mul_le_mul_of_nonneg_left z2 (Int.le_of_lt a0)
    have w3 := Int.mul_le_mul_of_nonneg_left z3 (Int.le_of_lt c0)
    have z4 : b * c ≤ a * d := by
      refine le_cancel e0 ?_
      have e1 : b * c * e = c * (b * e) := by grind
      have e2 : c * (a * g) = a * (c * g) := by grind
      have e3 : a * d * e = a * (d * e) := by grind
      omega
    have z5 : a * d = b * c := by omega
    have hq : q = 0 ∨ q = 1 ∨ q = 2 ∨ q = 3 := by have := P.q0; have := P.q3; omega
    have u1 := Int.mul_pos c0 h1
    have u2 := Int.mul_pos a0 h2
    have hsum : c * (α * X + β * Y) + a * (α * X' + β * Y') = 0 := by
      have v0 := P'.q0
      have v3 := P'.q3
      have hx := P.x
      have hy := P.y
      have gx := P'.x
      have gy := P'.y
      have hq' : q' = (q + 2) % 4 := by omega
      subst hq'
      clear h1 h2 h3 c1 c2 c3 u1 u2 y1 y2 y3 P P' P'' r0 r1 r2 r3 s0 s1 s2 s3 t0 t1 t2 t3 p1 p2 p3 p4 p5 p6 w2 w3 k1 k2 k3 n1 n2 n3 x1 x2
      rcases hq with rfl | rfl | rfl | rfl
      all_goals
        simp only [qx, qy, Int.reduceEq, Int.reduceAdd, Int.reduceMod, ↓reduceIte] at hx hy gx gy
        subst hx hy gx gy
        grind
    omega
  rw [P.ang, P'.ang, P''.ang]
  clear r0 r1 r2 r3 s0 s1 s2 s3 t0 t1 t2 t3 p1 p2 p3 p4 p5 p6 c1 c2 c3 h1 h2 h3
  omega
end Go.Proofs.YtjfpgpipbooilaaGreat
/- Bearings of a box within another one agree; azimuths of wider arcs. No function of the program. -/
namespace Go.Proofs.YtjfpgpipbooilaaGreat
open Go.RowKit

theorem box_half {x0 x1 y0 y1 : Int} (hn : ¬ oriB x0 x1 y0 y1) : ∃ α β : Int, ∀ X Y, x0 ≤ X → X ≤ x1 → y0 ≤ Y → Y ≤ y1 → 0 < α * X + β * Y := by
  unfold oriB at hn
  by_cases h0 : 0 < x0
  · exact ⟨1, 0, fun X Y _ _ _ _ => by omega⟩
  · by_cases h1 : x1 < 0
    · exact ⟨-1, 0, fun X Y _ _ _ _ => by omega⟩
    · by_cases h2 : 0 < y0
      · exact ⟨0, 1, fun X Y _ _ _ _ => by omega⟩
      · exact ⟨0, -1, fun X Y _ _ _ _ => by omega⟩
theorem befB_crs {a b c d : Int} : befB a b c d = true ↔ 0 ≤ crs a b c d := by
  unfold befB crs
  rw [decide_eq_true_eq]
  omega
theorem befB_not {a b c d : Int} (h : befB a b c d = false) : 0 ≤ crs c d a b := by
  unfold befB at h
  rw [decide_eq_false_iff_not] at h
  unfold crs
  have e1 := Int.mul_comm c b
  have e2 := Int.mul_comm d a
  omega
theorem crs_self (a b : Int) : 0 ≤ crs a b a b := by unfold crs; have := Int.mul_comm a b; omega
section
variable {x0 x1 y0 y1 α β : Int}
theorem cor_in (hx : x0 ≤ x1) (hy : y0 ≤ y1) (j : Nat) : (x0 ≤ crX x0 x1 j ∧ crX x0 x1 j ≤ x1) ∧ (y0 ≤ crY y0 y1 j ∧ crY y0 y1 j ≤ y1) := by
  unfold crX crY
  constructor <;> split <;> omega
theorem fst_in (hx : x0 ≤ x1) (hy : y0 ≤ y1) (i : Nat) : (x0 ≤ (fstC x0 x1 y0 y1 i).1 ∧ (fstC x0 x1 y0 y1 i).1 ≤ x1) ∧ (y0 ≤ (fstC x0 x1 y0 y1 i).2 ∧ (fstC x0 x1 y0 y1 i).2 ≤ y1) := by
  obtain ⟨j, hj⟩ := fst_cor x0 x1 y0 y1 i
  rw [hj]
  exact cor_in hx hy j
theorem lst_in (hx : x0 ≤ x1) (hy : y0 ≤ y1) (i : Nat) : (x0 ≤ (lstC x0 x1 y0 y1 i).1 ∧ (lstC x0 x1 y0 y1 i).1 ≤ x1) ∧ (y0 ≤ (lstC x0 x1 y0 y1 i).2 ∧ (lstC x0 x1 y0 y1 i).2 ≤ y1) := by
  obtain ⟨j, hj⟩ := lst_cor x0 x1 y0 y1 i
  rw [hj]
  exact cor_in hx hy j
theorem fst_min (hx : x0 ≤ x1) (hy : y0 ≤ y1) (hp : ∀ X Y, x0 ≤ X → X ≤ x1 → y0 ≤ Y → Y ≤ y1 → 0 < α * X + β * Y) :
    ∀ i j, j < i → 0 ≤ crs (fstC x0 x1 y0 y1 i).1 (fstC x0 x1 y0 y1 i).2 (crX x0 x1 j) (crY y0 y1 j)
  | 0, j, h => absurd h (Nat.not_lt_zero j)
  | i + 1, j, h => by
    have ih := fst_min hx hy hp i
    obtain ⟨⟨c1, c2⟩, c3, c4⟩ := cor_in hx hy i
    obtain ⟨⟨d1, d2⟩, d3, d4⟩ := cor_in hx hy j
    obtain ⟨⟨f1, f2⟩, f3, f4⟩ := fst_in hx hy i
    have e : fstC x0 x1 y0 y1 (i + 1) = if befB (crX x0 x1 i) (crY y0 y1 i) (fstC x0 x1 y0 y1 i).1 (fstC x0 x1 y0 y1 i).2 = true then (crX x0 x1 i, crY y0 y1 i) else fstC x0 x1 y0 y1 i := rfl
    rw [e]
    by_cases hj : j < i
    · cases hb : befB (crX x0 x1 i) (crY y0 y1 i) (fstC x0 x1 y0 y1 i).1 (fstC x0 x1 y0 y1 i).2
      · rw [if_neg Bool.false_ne_true]; exact ih j hj
      · rw [if_pos rfl]
        exact crs_trans (hp _ _ c1 c2 c3 c4) (hp _ _ f1 f2 f3 f4) (hp _ _ d1 d2 d3 d4) (befB_crs.1 hb) (ih j hj)
    · obtain rfl : j = i := by omega
      cases hb : befB (crX x0 x1 j) (crY y0 y1 j) (fstC x0 x1 y0 y1 j).1 (fstC x0 x1 y0 y1 j).2
      · rw [if_neg Bool.false_ne_true]; exact befB_not hb
      · rw [if_pos rfl]; exact crs_self _ _
theorem lst_max (hx : x0 ≤ x1) (hy : y0 ≤ y1) (hp : ∀ X Y, x0 ≤ X → X ≤ x1 → y0 ≤ Y → Y ≤ y1 → 0 < α * X + β * Y) :
    ∀ i j, j < i → 0 ≤ crs (crX x0 x1 j) (crY y0 y1 j) (lstC x0 x1 y0 y1 i).1 (lstC x0 x1 y0 y1 i).2
  | 0, j, h => absurd h (Nat.not_lt_zero j)
  | i + 1, j, h => by
    have ih := lst_max hx hy hp i
    obtain ⟨⟨c1, c2⟩, c3, c4⟩ := cor_in hx hy i
    obtain ⟨⟨d1, d2⟩, d3, d4⟩ := cor_in hx hy j
    obtain ⟨⟨f1, f2⟩, f3, f4⟩ := lst_in hx hy i
    have e : lstC x0 x1 y0 y1 (i + 1) = if befB (lstC x0 x1 y0 y1 i).1 (lstC x0 x1 y0 y1 i).2 (crX x0 x1 i) (crY y0 y1 i) = true then (crX x0 x1 i, crY y0 y1 i) else lstC x0 x1 y0 y1 i := rfl
    rw [e]
    by_cases hj : j < i
    · cases hb : befB (lstC x0 x1 y0 y1 i).1 (lstC x0 x1 y0 y1 i).2 (crX x0 x1 i) (crY y0 y1 i)
      · rw [if_neg Bool.false_ne_true]; exact ih j hj
      · rw [if_pos rfl]
        exact crs_trans (hp _ _ d1 d2 d3 d4) (hp _ _ f1 f2 f3 f4) (hp _ _ c1 c2 c3 c4) (ih j hj) (befB_crs.1 hb)
    · obtain rfl : j = i := by omega
      cases hb : befB (lstC x0 x1 y0 y1 j).1 (lstC x0 x1 y0 y1 j).2 (crX x0 x1 j) (crY y0 y1 j)
      · rw [if_neg Bool.false_ne_true]; exact befB_not hb
      · rw [if_pos rfl]; exact crs_self _ _
theorem crs_box {a b X Y : Int} (h : ∀ j, j < 4 → 0 ≤ crs a b (crX x0 x1 j) (crY y0 y1 j)) (h0 : x0 ≤ X) (h1 : X ≤ x1) (h2 : y0 ≤ Y) (h3 : Y ≤ y1) : 0 ≤ crs a b X Y := by
  have e0 := h 0 (by decide)
  have e1 := h 1 (by decide)
  have e2 := h 2 (by decide)
  have e3 := h 3 (by decide)
  unfold crs crX crY at *
  simp at e0 e1 e2 e3
  rcases Int.le_total 0 a with ha | ha <;> rcases Int.le_total 0 b with hb | hb
  · have m1 := Int.mul_le_mul_of_nonneg_left h2 ha
    have m2 := Int.mul_le_mul_of_nonneg_left h1 hb
    omega
  · have m1 := Int.mul_le_mul_of_nonneg_left h2 ha
    have m2 := Int.mul_le_mul_of_nonpos_left hb h0
    omega
  · have m1 := Int.mul_le_mul_of_nonpos_left ha h3
    have m2 := Int.mul_le_mul_of_nonneg_left h1 hb
    omega
  · have m1 := Int.mul_le_mul_of_nonpos_left ha h3
    have m2 := Int.mul_le_mul_of_nonpos_left hb h0
    omega
theorem crs_anti (a b c d : Int) : crs a b c d = -(crs c d a b) := by unfold crs; have := Int.mul_comm a d; have := Int.mul_comm b c; omega
theorem crs_box' {a b X Y : Int} (h : ∀ j, j < 4 → 0 ≤ crs (crX x0 x1 j) (crY y0 y1 j) a b) (h0 : x0 ≤ X) (h1 : X ≤ x1) (h2 : y0 ≤ Y) (h3 : Y ≤ y1) : 0 ≤ crs X Y a b := by
  have k : ∀ j, j < 4 → 0 ≤ crs (-a) (-b) (crX x0 x1 j) (crY y0 y1 j) := fun j hj => by
    have := h j hj
    rw [crs_anti] at this
    have e : crs (-a) (-b) (crX x0 x1 j) (crY y0 y1 j) = -(crs a b (crX x0 x1 j) (crY y0 y1 j)) := by unfold crs; grind
    omega
  have := crs_box k h0 h1 h2 h3
  rw [crs_anti]
  have e : crs (-a) (-b) X Y = -(crs a b X Y) := by unfold crs; grind
  omega
end
theorem br_sub {x0 x1 y0 y1 X0 X1 Y0 Y1 : Int} (hx : x0 ≤ x1) (hy : y0 ≤ y1) (h0 : X0 ≤ x0) (h1 : x1 ≤ X1) (h2 : Y0 ≤ y0) (h3 : y1 ≤ Y1) :
    agrB (brF X0 X1 Y0 Y1).1 (brF X0 X1 Y0 Y1).2 (brF x0 x1 y0 y1).1 (brF x0 x1 y0 y1).2 = true := by
  by_cases hO : oriB X0 X1 Y0 Y1
  · have e : brF X0 X1 Y0 Y1 = (0, 21600000) := if_pos hO
    rw [e]
    unfold agrB
    rw [Bool.or_eq_true, decide_eq_true_eq, decide_eq_true_eq]
    omega
  · have ho : ¬ oriB x0 x1 y0 y1 := fun h => hO (by unfold oriB at *; omega)
    obtain ⟨α, β, hp⟩ := box_half hO
    have hX : X0 ≤ X1 := by omega
    have hY : Y0 ≤ Y1 := by omega
    obtain ⟨⟨f1, f2⟩, f3, f4⟩ := fst_in hx hy 4
    obtain ⟨⟨g1, g2⟩, g3, g4⟩ := fst_in hX hY 4
    obtain ⟨⟨l1, l2⟩, l3, l4⟩ := lst_in hX hY 4
    have c1 := crs_box (fun j hj => fst_min hX hY hp 4 j hj) (X := (fstC x0 x1 y0 y1 4).1) (Y := (fstC x0 x1 y0 y1 4).2) (by omega) (by omega) (by omega) (by omega)
    have c2 := crs_box' (fun j hj => lst_max hX hY hp 4 j hj) (X := (fstC x0 x1 y0 y1 4).1) (Y := (fstC x0 x1 y0 y1 4).2) (by omega) (by omega) (by omega) (by omega)
    have key := ang_three (hp _ _ g1 g2 g3 g4) (hp _ _ (by omega) (by omega) (by omega) (by omega)) (hp _ _ l1 l2 l3 l4) c1 c2
    have e1 : brF X0 X1 Y0 Y1 = brG (fstC X0 X1 Y0 Y1 4) (lstC X0 X1 Y0 Y1 4) := if_neg hO
    have e2 : brF x0 x1 y0 y1 = brG (fstC x0 x1 y0 y1 4) (lstC x0 x1 y0 y1 4) := if_neg ho
    rw [e1, e2]
    obtain ⟨a1, a2⟩ := angF_bd (fstC X0 X1 Y0 Y1 4).1 (fstC X0 X1 Y0 Y1 4).2
    obtain ⟨b1, b2⟩ := angF_bd (lstC X0 X1 Y0 Y1 4).1 (lstC X0 X1 Y0 Y1 4).2
    obtain ⟨d1, d2⟩ := angF_bd (fstC x0 x1 y0 y1 4).1 (fstC x0 x1 y0 y1 4).2
    unfold brG
    dsimp only
    generalize (angF (fstC X0 X1 Y0 Y1 4).1 (fstC X0 X1 Y0 Y1 4).2).1 = A at *
    generalize angF (lstC X0 X1 Y0 Y1 4).1 (lstC X0 X1 Y0 Y1 4).2 = Bq at *
    generalize (angF (fstC x0 x1 y0 y1 4).1 (fstC x0 x1 y0 y1 4).2).1 = D at *
    obtain ⟨B, bx⟩ := Bq
    dsimp only at key b1 b2 ⊢
    clear c1 c2 hp f1 f2 f3 f4 g1 g2 g3 g4 l1 l2 l3 l4 e1 e2
    unfold agrB
    rw [Bool.or_eq_true]
    left
    rw [decide_eq_true_eq]
    split <;> split <;> omega
def SbI (p q : Int × Int) : Prop := q.1 ≤ p.1 ∧ p.2 ≤ q.2
theorem SbI.mul {p q p' q' : Int × Int} (h : SbI p q) (hu : UnI p) (h' : SbI p' q') (hu' : UnI p') : SbI (mL p p') (mL q q') := mul_part h.1 hu.2.1 h.2 h'.1 hu'.2.1 h'.2
theorem az_sub {a0 a1 b0 b1 c0 c1 p0 p1 q0 q1 r0 r1 : Int} (h0 : a0 ≤ p0) (h : p0 ≤ p1) (h1 : p1 ≤ a1) (g0 : b0 ≤ q0) (g : q0 ≤ q1) (g1 : q1 ≤ b1) (hc : r0 ≤ r1) (d : Dia r0 r1 c0 c1) :
    agrB (azF a0 a1 b0 b1 c0 c1).1 (azF a0 a1 b0 b1 c0 c1).2 (azF p0 p1 q0 q1 r0 r1).1 (azF p0 p1 q0 q1 r0 r1).2 = true := by
  have e1 : SbI (sI p0 p1) (sI a0 a1) := enc_part h0 h h1
  have e2 : SbI (sI q0 q1) (sI b0 b1) := enc_part g0 g g1
  have e3 : SbI (cI p0 p1) (cI a0 a1) := by unfold SbI cI cosL cosH; exact enc_part (by omega) (by omega) (by omega)
  have e4 : SbI (cI q0 q1) (cI b0 b1) := by unfold SbI cI cosL cosH; exact enc_part (by omega) (by omega) (by omega)
  have e5 : SbI (sI r0 r1) (sI c0 c1) := enc_dia hc d
  have e6 : SbI (cI r0 r1) (cI c0 c1) := cos_dia hc d
  have m1 := e4.mul (cI_un q0 q1) e5 (sI_un r0 r1)
  have m2 := e2.mul (sI_un q0 q1) e3 (cI_un p0 p1)
  have m3 := e4.mul (cI_un q0 q1) e6 (cI_un r0 r1)
  have m4 := m3.mul ((cI_un q0 q1).mul (cI_un r0 r1)) e1 (sI_un p0 p1)
  have u1 := (cI_un q0 q1).mul (sI_un r0 r1)
  have u2 := (sI_un q0 q1).mul (cI_un p0 p1)
  have u4 := ((cI_un q0 q1).mul (cI_un r0 r1)).mul (sI_un p0 p1)
  unfold azF
  unfold UnI at u1 u2 u4
  unfold SbI at m1 m2 m4
  refine br_sub ?_ ?_ ?_ ?_ ?_ ?_ <;> (first | unfold azX | unfold azY) <;> dsimp only <;> omega
end Go.Proofs.YtjfpgpipbooilaaGreat
/- The body that was observed is identified. No function of the program. -/
namespace Go.Proofs.YtjfpgpipbooilaaGreat
open Go.RowKit

theorem Dia.shiftL {x0 y0 x1 y1 x2 y2 : Int} (h : Dia x0 y0 x1 y1) (h1 : (x2 - x0) % 21600000 = 0) (h2 : y2 - x2 = y0 - x0) : Dia x2 y2 x1 y1 := by
  unfold Dia at *
  have : (x2 - x1) % 21600000 = (x0 - x1) % 21600000 := by omega
  rw [this]; omega
theorem turn_pt (x : Int) : turnLo x x = x % 21600000 ∧ turnHi x x = x % 21600000 := by
  unfold turnLo turnHi
  rw [if_neg (by omega), if_neg (by omega)]
  omega
theorem lha_wide {p q g h x n : Int} (d : Dia p q g h) (hn : 0 ≤ n) : Dia (turnLo (p + turnLo x x) (q + turnHi x x)) (turnHi (p + turnLo x x) (q + turnHi x x)) (g + x) (h + (x + n)) := by
  rw [(turn_pt x).1, (turn_pt x).2]
  exact (((d.add (Int.le_refl x)).monoR (Int.le_refl _) (show h + x ≤ h + (x + n) by omega)).shiftL (by omega) (by omega)).turnL
structure KnOk (lp : List PgV) (ls : List StarV) (s : ByteArray) (t u x : Int) : Prop where
  tr : triB u u (whR lp ls s t t).1.c (whR lp ls s t t).1.d (lhaL lp ls s t t x x) (lhaH lp ls s t t x x) = true
theorem kn_ok {lp : List PgV} {ls : List StarV} {s : ByteArray} {t u x : Int} (k : NewOk lp ls) (hp : ptB u x = true) (hl : lhaE lp ls s t t x x = 0) : KnOk lp ls s t u x := by
  have hp' := pt_plc hp
  have o := hz_ok (u := u) (v := u) k hp'.2.1 hl
  refine ⟨?_⟩
  unfold triB
  rw [hp'.2.1, o.dec, o.lha]
  rfl
theorem knows_plc {u x n : Int} (hp : ptB u x = true) (hn : 0 ≤ n) (hn1 : n ≤ 65535) : plcR (mx (-5400000) (u - n)) (mn 5400000 (u + n)) x (x + n) = true := by
  have hp' := ptB_iff.1 hp
  unfold plcR lonB
  rw [Bool.and_eq_true, latB_iff, decide_eq_true_eq, mx_eq, mn_eq]
  omega
noncomputable def sn1 (lp : List PgV) (ls : List StarV) (a b u v x y : Int) (s : ByteArray) : SeenV :=
    ⟨s, alL u v (whR lp ls s a b).1.c (whR lp ls s a b).1.d ((whR lp ls s a b).1.a + x) ((whR lp ls s a b).1.b + y), alH u v (whR lp ls s a b).1.c (whR lp ls s a b).1.d ((whR lp ls s a b).1.a + x) ((whR lp ls s a b).1.b + y),
      (azF u v (whR lp ls s a b).1.c (whR lp ls s a b).1.d ((whR lp ls s a b).1.a + x) ((whR lp ls s a b).1.b + y)).1, (azF u v (whR lp ls s a b).1.c (whR lp ls s a b).1.d ((whR lp ls s a b).1.a + x) ((whR lp ls s a b).1.b + y)).2⟩
theorem cnd1_yes {lp : List PgV} {ls : List StarV} {a b u v x y : Int} {s : ByteArray} (ha : isA s = false) (h0 : (whR lp ls s a b).2 = 0) : cnd1 lp ls a b u v x y s = [sn1 lp ls a b u v x y s] := by
  unfold cnd1
  rw [if_neg (by rw [ha]; decide), if_pos h0]
  rfl
theorem knows_in {lp : List PgV} {ls : List StarV} {s : ByteArray} {t bf af u x n wd : Int} (k : NewOk lp ls) (hs : s ∈ nmL lp ls) (ha : isA s = false) (hb : 0 ≤ bf) (hf : 0 ≤ af)
    (h0 : (whR lp ls s (t - bf) (t + af)).2 = 0) (hp : ptB u x = true) (hl : lhaE lp ls s t t x x = 0) (hn : 0 ≤ n) (hn1 : n ≤ 65535) (hw : 0 ≤ wd) :
    s ∈ idL (cndL lp ls (t - bf) (t + af) (mx (-5400000) (u - n)) (mn 5400000 (u + n)) x (x + n))
      (mx (-5400000) (alL u u (whR lp ls s t t).1.c (whR lp ls s t t).1.d (lhaL lp ls s t t x x) (lhaH lp ls s t t x x) - wd))
      (mn 5400000 (alH u u (whR lp ls s t t).1.c (whR lp ls s t t).1.d (lhaL lp ls s t t x x) (lhaH lp ls s t t x x) + wd))
      ((azF u u (whR lp ls s t t).1.c (whR lp ls s t t).1.d (lhaL lp ls s t t x x) (lhaH lp ls s t t x x)).1 - wd)
      ((azF u u (whR lp ls s t t).1.c (whR lp ls s t t).1.d (lhaL lp ls s t t x x) (lhaH lp ls s t t x x)).2 + wd) := by
  obtain ⟨_, po⟩ := whR_part (n := t) k.ok (show t - bf ≤ t by omega) (show t ≤ t + af by omega) h0
  have o := (kn_ok k hp hl).tr
  have c := cnd_ok k (knows_plc hp hn hn1) h0
  obtain ⟨e1, e2⟩ := lha_is hl
  have dd := lha_wide (x := x) po.gha hn
  rw [← e1, ← e2] at dd
  have bo := al_bd o
  have bc := al_bd c.tr
  unfold triB at o
  simp only [Bool.and_eq_true] at o
  obtain ⟨⟨o1, o2⟩, o3⟩ := o
  have o2' := latB_iff.1 o2
  have o3' := validB_iff.1 o3
  have hp' := ptB_iff.1 hp
  have u0 : mx (-5400000) (u - n) ≤ u := by rw [mx_eq]; omega
  have u1 : u ≤ mn 5400000 (u + n) := by rw [mn_eq]; omega
  have q := alt_part u0 (Int.le_refl u) u1 po.dec.1 o2'.1 po.dec.2 o3'.1 dd
  have r := as_part bo.1 q.1 q.2 (alt_fx _ _ _ _ _ _)
  have z := az_sub u0 (Int.le_refl u) u1 po.dec.1 o2'.1 po.dec.2 o3'.1 dd
  have zb := brF_bd (azX u u (whR lp ls s t t).1.c (whR lp ls s t t).1.d (lhaL lp ls s t t x x) (lhaH lp ls s t t x x)).1 (azX u u (whR lp ls s t t).1.c (whR lp ls s t t).1.d (lhaL lp ls s t t x x) (lhaH lp ls s t t x x)).2 (azY (whR lp ls s t t).1.c (whR lp ls s t t).1.d (lhaL lp ls s t t x x) (lhaH lp ls s t t x x)).1 (azY (whR lp ls s t t).1.c (whR lp ls s t t).1.d (lhaL lp ls s t t x x) (lhaH lp ls s t t x x)).2
  change _ ∧ (azF u u (whR lp ls s t t).1.c (whR lp ls s t t).1.d (lhaL lp ls s t t x x) (lhaH lp ls s t t x x)).1 ≤ (azF u u (whR lp ls s t t).1.c (whR lp ls s t t).1.d (lhaL lp ls s t t x x) (lhaH lp ls s t t x x)).2 ∧ _ at zb
  have z' := agr_wide hw zb.2.1 z
  have r1 : alL (mx (-5400000) (u - n)) (mn 5400000 (u + n)) (whR lp ls s (t - bf) (t + af)).1.c (whR lp ls s (t - bf) (t + af)).1.d ((whR lp ls s (t - bf) (t + af)).1.a + x) ((whR lp ls s (t - bf) (t + af)).1.b + (x + n)) ≤ alL u u (whR lp ls s t t).1.c (whR lp ls s t t).1.d (lhaL lp ls s t t x x) (lhaH lp ls s t t x x) := r.2.1
  have r2 : alH u u (whR lp ls s t t).1.c (whR lp ls s t t).1.d (lhaL lp ls s t t x x) (lhaH lp ls s t t x x) ≤ alH (mx (-5400000) (u - n)) (mn 5400000 (u + n)) (whR lp ls s (t - bf) (t + af)).1.c (whR lp ls s (t - bf) (t + af)).1.d ((whR lp ls s (t - bf) (t + af)).1.a + x) ((whR lp ls s (t - bf) (t + af)).1.b + (x + n)) := r.2.2.1
  refine List.mem_map.2 ⟨sn1 lp ls (t - bf) (t + af) (mx (-5400000) (u - n)) (mn 5400000 (u + n)) x (x + n) s, List.mem_filter.2 ⟨List.mem_flatMap.2 ⟨s, hs, ?_⟩, ?_⟩, rfl⟩
  · rw [cnd1_yes ha h0]
    exact List.mem_singleton.2 rfl
  · unfold idB sn1
    dsimp only
    rw [z', Bool.true_and, Bool.and_eq_true, decide_eq_true_eq, decide_eq_true_eq]
    generalize mx (-5400000) (u - n) = m0 at r1 r2 ⊢
    generalize mn 5400000 (u + n) = m1 at r1 r2 ⊢
    rw [mx_eq, mn_eq]
    omega
end Go.Proofs.YtjfpgpipbooilaaGreat
