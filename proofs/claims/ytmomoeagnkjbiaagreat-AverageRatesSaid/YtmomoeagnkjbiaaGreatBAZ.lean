/- Contracts and plain laws, several texts in one: RtL1 -/
import Derived.Test.YtmomoeagnkjbiaaGreatProg
import Derived.WalkKit
import Derived.WalkSpells
import Derived.WalkLawsBesides
import Derived.Lib.Hide
import Derived.BigQuiet
import Derived.Test.YtmomoeagnkjbiaaGreatBAA
import Derived.Test.YtmomoeagnkjbiaaGreatBAB
import Derived.Test.YtmomoeagnkjbiaaGreatBAV
/- What the law AverageRates calls: comparison of fractions, parts of arcs. -/
namespace Go.Proofs.YtmomoeagnkjbiaaGreat
open Go.RowKit

set_option maxHeartbeats 1000000 in
set_option maxRecDepth 100000 in
theorem r3_Cmp (n d m e : Int) (w : World) (h1 : -1073741824 ≤ n ∧ n ≤ 1073741824) (h2 : -1073741824 ≤ d ∧ d ≤ 1073741824) (h3 : -1073741824 ≤ m ∧ m ≤ 1073741824) (h4 : -1073741824 ≤ e ∧ e ≤ 1073741824) :
    Calls Tryz.prog 14 #[(.agg #[.int .i64 (n), .int .i64 (d)]), (.agg #[.int .i64 (m), .int .i64 (e)])] w fun x w' => x = .returned (.int .i64 (cmpF n d m e)) ∧ ∃ d, w' = bw w d := by
  have p1 := prod_in (X := 1073741824) (by decide) h1 h4
  have p2 := prod_in (X := 1073741824) (by decide) h3 h2
  unfold cmpF
  have k1 : IntKind.i64.wrap (n * e) = n * e := IntWalk.i64_in _ (by omega)
  have k2 : IntKind.i64.wrap (m * d) = m * d := IntWalk.i64_in _ (by omega)
  obtain ⟨x, hx⟩ : ∃ x, n * e = x := ⟨_, rfl⟩
  obtain ⟨y, hy⟩ : ∃ y, m * d = y := ⟨_, rfl⟩
  rw [hx, hy]
  have k1' : IntKind.i64.wrap (n * e) = x := k1.trans hx
  have k2' : IntKind.i64.wrap (m * d) = y := k2.trans hy
  clear k1 k2 p1 p2 h1 h2 h3 h4 hx hy
  refine lay_start ?_
  by_cases c1 : x < y
  · rw [if_pos c1]
    go_enter Tryz.func14, Tryz.ntmps14
    go_wp2_with fail
    go_ret
    exact ⟨rfl, lay_ex _ _⟩
  · rw [if_neg c1]
    by_cases c2 : y < x
    · rw [if_pos c2]
      go_enter Tryz.func14, Tryz.ntmps14
      go_wp2_with fail
      go_ret
      exact ⟨rfl, lay_ex _ _⟩
    · rw [if_neg c2]
      go_enter Tryz.func14, Tryz.ntmps14
      go_wp2_with fail
      go_ret
      exact ⟨rfl, lay_ex _ _⟩
/-- A part of an arc. -/
def pt0 (x y u : Int) : Int := x + u % (y - x + 1)
def pt1 (x y u v : Int) : Int := pt0 x y u + v % (y - pt0 x y u + 1)
theorem pt_in {x y u v : Int} (h : x ≤ y) : x ≤ pt0 x y u ∧ pt0 x y u ≤ pt1 x y u v ∧ pt1 x y u v ≤ y := by
  unfold pt1
  obtain ⟨p, hp⟩ : ∃ p, pt0 x y u = p := ⟨_, rfl⟩
  have h1 : x ≤ p ∧ p ≤ y := by
    unfold pt0 at hp
    have a := Int.emod_nonneg u (show y - x + 1 ≠ 0 by omega)
    have b := Int.emod_lt_of_pos u (show 0 < y - x + 1 by omega)
    omega
  rw [hp]
  have a := Int.emod_nonneg v (show y - p + 1 ≠ 0 by omega)
  have b := Int.emod_lt_of_pos v (show 0 < y - p + 1 by omega)
  omega
set_option maxHeartbeats 1000000 in
set_option maxRecDepth 100000 in
theorem law23_part (x y u v : Int) (w : World) (h : x ≤ y) (hx : -1099511627776 ≤ x) (hy : y ≤ 1099511627776) (hu : 0 ≤ u ∧ u < 4294967296) (hv : 0 ≤ v ∧ v < 4294967296) :
    Calls Tryz.prog 12 #[(.agg #[.int .i64 (x), .int .i64 (y)]), .int .u32 u, .int .u32 v] w fun e w' => e = .returned (.agg #[.int .i64 (pt0 x y u), .int .i64 (pt1 x y u v)]) ∧ ∃ d, w' = bw w d := by
  have hin := pt_in (u := u) (v := v) h
  rw [show pt1 x y u v = pt0 x y u + v % (y - pt0 x y u + 1) from rfl] at *
  obtain ⟨D, hD⟩ : ∃ D, y - x = D := ⟨_, rfl⟩
  obtain ⟨D1, hD1⟩ : ∃ D1, D + 1 = D1 := ⟨_, rfl⟩
  have e1 : u.tmod D1 = u % D1 := Int.tmod_eq_emod_of_nonneg hu.1
  obtain ⟨r, hr⟩ : ∃ r, u % D1 = r := ⟨_, rfl⟩
  have hr2 : 0 ≤ r ∧ r < D1 := by rw [← hr]; exact ⟨Int.emod_nonneg _ (by omega), Int.emod_lt_of_pos _ (by omega)⟩
  have e2 : pt0 x y u = x + r := by unfold pt0; rw [hD, hD1, hr]
  rw [e2] at hin ⊢
  obtain ⟨p, hp⟩ : ∃ p, x + r = p := ⟨_, rfl⟩
  rw [hp] at hin ⊢
  obtain ⟨E, hE⟩ : ∃ E, y - p = E := ⟨_, rfl⟩
  obtain ⟨E1, hE1⟩ : ∃ E1, E + 1 = E1 := ⟨_, rfl⟩
  rw [hE, hE1] at hin ⊢
  have e3 : v.tmod E1 = v % E1 := Int.tmod_eq_emod_of_nonneg hv.1
  obtain ⟨s, hs⟩ : ∃ s, v % E1 = s := ⟨_, rfl⟩
  have hs2 : 0 ≤ s ∧ s < E1 := by rw [← hs]; exact ⟨Int.emod_nonneg _ (by omega), Int.emod_lt_of_pos _ (by omega)⟩
  rw [hs] at e3 hin ⊢
  rw [hr] at e1
  obtain ⟨q, hq⟩ : ∃ q, p + s = q := ⟨_, rfl⟩
  rw [hq] at hin ⊢
  have ku : IntKind.i64.wrap u = u := IntWalk.i64_in _ (by omega)
  have kv : IntKind.i64.wrap v = v := IntWalk.i64_in _ (by omega)
  have kD : IntKind.i64.wrap D = D := IntWalk.i64_in _ (by omega)
  have kD1 : IntKind.i64.wrap D1 = D1 := IntWalk.i64_in _ (by omega)
  have kE : IntKind.i64.wrap E = E := IntWalk.i64_in _ (by omega)
  have kE1 : IntKind.i64.wrap E1 = E1 := IntWalk.i64_in _ (by omega)
  have kr : IntKind.i64.wrap r = r := IntWalk.i64_in _ (by omega)
  have ks : IntKind.i64.wrap s = s := IntWalk.i64_in _ (by omega)
  have kp : IntKind.i64.wrap p = p := IntWalk.i64_in _ (by omega)
  have kq : IntKind.i64.wrap q = q := IntWalk.i64_in _ (by omega)
  have z1 : (D1 == 0) = false := beq_eq_false_iff_ne.2 (by omega)
  have z2 : (E1 == 0) = false := beq_eq_false_iff_ne.2 (by omega)
  have z3 : D1 ≠ 0 := by omega
  have z4 : E1 ≠ 0 := by omega
  have e1' : u % D1 = r := hr
  have e3' : v % E1 = s := hs
  clear hin hr2 hs2 e2 h hx hy hu hv
  refine lay_start ?_
  go_enter Tryz.func12, Tryz.ntmps12
  go_wp2_with fail
  refine region_mixW [0, 0, 0, 0, 0, 0, 0, 0, 0, 0, 0, 0, 0, 1, 1] (by kernel_rfl) (by kernel_rfl) (by kernel_rfl) ?_
  repeat (first | (refine wpM_quiet (fun K hK => ?_); go_simp; first | (refine hK _ ?_; clear hK K) | (apply Exists.intro; refine ⟨fun _ => ?_, hK _ ?_⟩; (first | fail); clear hK K)) | (refine wpM_special (fun K hK d => ?_); go_simp; refine hK _ _ (by first | exact lay_in w [_] _ | exact lay_in w [_, _] _ | exact lay_in w [_, _, _] _ | exact lay_in w [_, _, _, _] _ | exact lay_in w [_, _, _, _, _] _ | exact lay_in w [_, _, _, _, _, _] _) ?_; clear hK K))
  refine wpM_nil ?_
  intro d
  rw [lay_bw]
  go_wp2_with fail
  refine region_bw_tail 13 (by kernel_rfl) (by kernel_rfl) ?_
  simp only [List.take_succ_cons, List.take_zero, List.drop_succ_cons, List.drop_zero]
  repeat (go_big_quiet_step ((first | fail)))
  refine wpQuiet_nil ?_
  rintro w' ⟨d, rfl⟩
  rw [lay_bw]
  go_wp2_with fail
  exact bodyPost_ret (v := (.agg #[.int .i64 (p), .int .i64 (q)])) (by simp [results, Tryz.results12, go_sem]) rfl ⟨rfl, lay_ex _ _⟩
end Go.Proofs.YtmomoeagnkjbiaaGreat
