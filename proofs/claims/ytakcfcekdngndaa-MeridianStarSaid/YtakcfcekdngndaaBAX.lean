/- Contracts and plain laws, several texts in one: StL -/
import Derived.Test.YtakcfcekdngndaaProg
import Derived.WalkKit
import Derived.WalkSpells
import Derived.WalkLawsBesides
import Derived.Lib.Hide
import Derived.BigQuiet
import Derived.Test.YtakcfcekdngndaaBAA
import Derived.Test.YtakcfcekdngndaaBAO
import Derived.Test.YtakcfcekdngndaaBAW
/- The law MeridianStar. -/
namespace Go.Proofs.Ytakcfcekdngndaa
open Go.RowKit

theorem star_found {c g l : Int} (h1 : -5160000 ≤ c) (h2 : c ≤ 5160000) (h3 : 0 ≤ g) (h4 : g ≤ 180000) (h5 : -1099511627776 ≤ l) (h6 : l ≤ 1099511627776) {x0 x1 : Int}
    (e0 : x0 = asL (altS0 c c (5400000 - g) (5400000 - g) l l) (altS1 c c (5400000 - g) (5400000 - g) l l)) (e1 : x1 = asH (altS0 c c (5400000 - g) (5400000 - g) l l) (altS1 c c (5400000 - g) (5400000 - g) l l)) (hE : asE (altS0 c c (5400000 - g) (5400000 - g) l l) (altS1 c c (5400000 - g) (5400000 - g) l l) = 0)
    (hx : -5400000 ≤ x0 ∧ x0 ≤ x1 ∧ x1 ≤ 5400000) (W : World) :
    Calls Try.prog 21 #[(.agg #[.int .i64 (x0), .int .i64 (x1)]), (.agg #[.int .i64 (l), .int .i64 (l)]), (.agg #[.int .i64 (g), .int .i64 (g)])] W fun e w' => ∃ q0 q1, insideB c c q0 q1 = true ∧ e = .returned (.tuple #[(.agg #[.int .i64 (q0), .int .i64 (q1)]), .int .i64 0]) ∧ ∃ d, w' = bw W d := by
  have lx : latB x0 x1 = true := latB_iff.2 (by omega)
  have vl : validB l l = true := validB_iff.2 (by omega)
  have vg : validB g g = true := validB_iff.2 (by omega)
  have vs := mul_unit (@enc_in g g).1 enc_in.2.1 enc_in.2.2 (cos_in2 l l).1 (cos_in2 l l).2.1 (cos_in2 l l).2.2
  have pb := pol_bd h3 h4
  have ec : cosL g g = bLo (g + 5400000) ∧ cosH g g = bHi (g + 5400000) := by unfold cosL cosH; exact enc_point _
  have LAW := fun m0 m1 hb => star_law (m0 := m0) (m1 := m1) (r := l) h1 h2 h3 h4 e0 e1 hx.2.1 hE rfl rfl hb
  refine (mer_Polaris0 x0 x1 l g (cosL g g) (cosH g g) (encL g g) (encH g g) (cosL l l) (cosH l l) (mulL (encL g g) (encH g g) (cosL l l) (cosH l l)) (mulH (encL g g) (encH g g) (cosL l l) (cosH l l)) W lx vl vg h3 h4 (unit_fx vs) (unit_fx (cos_in2 _ _)) (by omega)
    (fun m0 m1 => div_fx (pq_in _ _ _ _).1 (pq_in _ _ _ _).2.1 (pq_in _ _ _ _).2.2 (by omega) (by omega)) as_bd (fun m0 m1 hb => (LAW m0 m1 hb).1)
    (Lib.hid fun b W hc => mc_cos b g g W hc vg) (Lib.hid fun b W hc => mc_sin b g g W hc vg) (Lib.hid fun b W hc => mc_cos b l l W hc vl)
    (Lib.hid fun b W hc => mc_mul b (encL g g) (encH g g) (cosL l l) (cosH l l) W hc (unit_fx enc_in) (unit_fx (cos_in2 _ _)) (unit_fx vs))).mono ?_
  rintro e w' ⟨m0, m1, d, hb, rfl, rfl⟩
  obtain ⟨E, A, B⟩ := LAW m0 m1 hb
  obtain ⟨f1, i1⟩ := ls_has (n := c) (by omega) (by omega) A B
  exact ⟨_, _, i1, by rw [f1], d, rfl⟩
set_option maxHeartbeats 4000000 in
set_option maxRecDepth 100000 in
theorem law33_Star {w : World} (c : Int) (_ : (Lit.int .i64 c).wf = true) (g : Int) (_ : (Lit.int .i64 g).wf = true) (l : Int) (_ : (Lit.int .i64 l).wf = true) :
    Calls Try.prog 6 #[.int .i64 c, .int .i64 g, .int .i64 l] w fun e w' => e = .returned (.bool true) ∧ ∃ d, w' = bw w d := by
  have HOn := Lib.hid (fun n W => law33_one n W)
  by_cases hin : -5160000 ≤ c ∧ c ≤ 5160000 ∧ 0 ≤ g ∧ g ≤ 180000 ∧ -1099511627776 ≤ l ∧ l ≤ 1099511627776
  · obtain ⟨h1, h2, h3, h4, h5, h6⟩ := hin
    have U := alt_some (lat := c) (dec := 5400000 - g) (lha := l) (by omega) (by omega) (by omega) (by omega)
    obtain ⟨uE, ui⟩ := U
    have HA := Lib.hid (fun W => cos_Altitude c c (5400000 - g) (5400000 - g) l l W (tri_pt (by omega) (by omega) (by omega) (by omega) h5 h6))
    rw [uE] at HA
    have HP := Lib.hid (fun W => star_found h1 h2 h3 h4 h5 h6 rfl rfl uE ui W)
    clear uE ui
    generalize asL (altS0 c c (5400000 - g) (5400000 - g) l l) (altS1 c c (5400000 - g) (5400000 - g) l l) = x0 at *
    generalize asH (altS0 c c (5400000 - g) (5400000 - g) l l) (altS1 c c (5400000 - g) (5400000 - g) l l) = x1 at *
    obtain ⟨dd, hdd⟩ : ∃ dd, 5400000 - g = dd := ⟨_, rfl⟩
    have k1 : IntKind.i64.wrap (5400000 - g) = dd := by rw [hdd]; exact IntWalk.i64_in _ (by omega)
    rw [hdd] at HA
    have n1 : ¬ c < -5160000 := by omega
    have n2 : ¬ 5160000 < c := by omega
    have n3 : ¬ g < 0 := by omega
    have n4 : ¬ 180000 < g := by omega
    have n5 : ¬ l < -1099511627776 := by omega
    have n6 : ¬ 1099511627776 < l := by omega
    clear h1 h2 h3 h4 h5 h6 hdd
    refine lay_start ?_
    go_enter Try.func6, Try.ntmps6
    go_wp2_with (first | (go_at_call 7; refine (law33_awake _).mono ?_; rintro e w' ⟨rfl, dA, rfl⟩; rw [lay_bw]) | (go_at_call 9; refine (HOn.out _ _).mono ?_; rintro e w' ⟨rfl, dB, rfl⟩; rw [lay_bw]) | (go_at_call 8; refine (HA.out _).mono ?_; rintro e w' ⟨rfl, dC, rfl⟩; rw [lay_bw]))
    refine region_mixB 11 (.q 0 (.q 1 (.q 2 (.q 3 (.q 4 (.two 5 (.q 6 (.q 7 (.q 8 (.one 9 (.one 10 .done))))) 9 (.one 5 (.q 6 (.q 7 (.q 8 (.one 10 .done))))))))))) (by kernel_rfl) (by kernel_rfl) (by kernel_rfl) (by kernel_rfl) (by simp) (by kernel_rfl) ?_
    simp only [List.drop_succ_cons, List.drop_zero]
    iterate 5 (refine wpMB_quiet rfl (fun K hK => ?_); go_simp; first | (refine hK _ ?_; clear hK K) | (apply Exists.intro; refine ⟨fun _ => ?_, hK _ ?_⟩; (go_at_call 9; exact bq (HOn.out _ _) (fun d => ⟨d, rfl⟩)); clear hK K))
    refine wpMB_two ?_ ?_
    · refine spB_of rfl (fun K hK x1 => ?_)
      rw [lay_bw]
      go_simp
      refine (HP.out _).mono ?_
      rintro e w' ⟨q0, q1, iq, rfl, d5, rfl⟩
      rw [lay_bw]
      have HI := Lib.hid (fun W => ref05_Inside c c q0 q1 W)
      rw [iq] at HI
      clear iq
      refine ⟨_, rfl, hK _ _ (by first | exact lay_in w [_] _ | exact lay_in w [_, _] _ | exact lay_in w [_, _, _] _ | exact lay_in w [_, _, _, _] _ | exact lay_in w [_, _, _, _, _] _ | exact lay_in w [_, _, _, _, _, _] _ | exact lay_in w [_, _, _, _, _, _, _] _ | exact lay_in w [_, _, _, _, _, _, _, _] _) ?_⟩
      clear hK K
      repeat (refine wpMB_quiet rfl (fun K hK => ?_); go_simp; refine hK _ ?_; clear hK K)
      refine wpMB_one ?_
      refine spB_of rfl (fun K hK x2 => ?_)
      rw [lay_bw]
      go_simp
      refine hK _ _ (by first | exact lay_in w [_] _ | exact lay_in w [_, _] _ | exact lay_in w [_, _, _] _ | exact lay_in w [_, _, _, _] _ | exact lay_in w [_, _, _, _, _] _ | exact lay_in w [_, _, _, _, _, _] _ | exact lay_in w [_, _, _, _, _, _, _] _ | exact lay_in w [_, _, _, _, _, _, _, _] _) ?_
      clear hK K
      refine wpMB_one ?_
      refine spB_of rfl (fun K hK x2 => ?_)
      rw [lay_bw]
      go_simp
      refine hK _ _ (by first | exact lay_in w [_] _ | exact lay_in w [_, _] _ | exact lay_in w [_, _, _] _ | exact lay_in w [_, _, _, _] _ | exact lay_in w [_, _, _, _, _] _ | exact lay_in w [_, _, _, _, _, _] _ | exact lay_in w [_, _, _, _, _, _, _] _ | exact lay_in w [_, _, _, _, _, _, _, _] _) ?_
      clear hK K
      refine wpMB_done (fun x5 => ?_)
      show wpList _ _ _ _ _ _
      rw [lay_bw]
      go_wp2_with fail
      refine region_bw (by kernel_rfl) (by kernel_rfl) ?_
      repeat (go_big_quiet_step ((first | (go_at_call 9; first | exact bq (HOn.out _ _) (fun d => lay_join _ _ _ d) | exact bq (HOn.out _ _) (fun d => ⟨d, rfl⟩)) | (go_at_call 12; first | exact bq (HI.out _) (fun d => lay_join _ _ _ d) | exact bq (HI.out _) (fun d => ⟨d, rfl⟩)))))
      refine wpQuiet_nil ?_
      rintro w' ⟨d, rfl⟩
      rw [lay_bw]
      go_wp2_with fail
      go_ret
      exact ⟨rfl, lay_ex _ _⟩
    · refine spB_of rfl (fun K hK x2 => ?_)
      rw [lay_bw]
      go_simp
      refine hK _ _ (by first | exact lay_in w [_] _ | exact lay_in w [_, _] _ | exact lay_in w [_, _, _] _ | exact lay_in w [_, _, _, _] _ | exact lay_in w [_, _, _, _, _] _ | exact lay_in w [_, _, _, _, _, _] _ | exact lay_in w [_, _, _, _, _, _, _] _ | exact lay_in w [_, _, _, _, _, _, _, _] _) ?_
      clear hK K
      refine wpMB_one ?_
      refine spB_of rfl (fun K hK x1 => ?_)
      rw [lay_bw]
      go_simp
      refine (HP.out _).mono ?_
      rintro e w' ⟨q0, q1, iq, rfl, d5, rfl⟩
      rw [lay_bw]
      have HI := Lib.hid (fun W => ref05_Inside c c q0 q1 W)
      rw [iq] at HI
      clear iq
      refine ⟨_, rfl, hK _ _ (by first | exact lay_in w [_] _ | exact lay_in w [_, _] _ | exact lay_in w [_, _, _] _ | exact lay_in w [_, _, _, _] _ | exact lay_in w [_, _, _, _, _] _ | exact lay_in w [_, _, _, _, _, _] _ | exact lay_in w [_, _, _, _, _, _, _] _ | exact lay_in w [_, _, _, _, _, _, _, _] _) ?_⟩
      clear hK K
      repeat (refine wpMB_quiet rfl (fun K hK => ?_); go_simp; refine hK _ ?_; clear hK K)
      refine wpMB_one ?_
      refine spB_of rfl (fun K hK x2 => ?_)
      rw [lay_bw]
      go_simp
      refine hK _ _ (by first | exact lay_in w [_] _ | exact lay_in w [_, _] _ | exact lay_in w [_, _, _] _ | exact lay_in w [_, _, _, _] _ | exact lay_in w [_, _, _, _, _] _ | exact lay_in w [_, _, _, _, _, _] _ | exact lay_in w [_, _, _, _, _, _, _] _ | exact lay_in w [_, _, _, _, _, _, _, _] _) ?_
      clear hK K
      refine wpMB_done (fun x5 => ?_)
      show wpList _ _ _ _ _ _
      rw [lay_bw]
      go_wp2_with fail
      refine region_bw (by kernel_rfl) (by kernel_rfl) ?_
      repeat (go_big_quiet_step ((first | (go_at_call 9; first | exact bq (HOn.out _ _) (fun d => lay_join _ _ _ d) | exact bq (HOn.out _ _) (fun d => ⟨d, rfl⟩)) | (go_at_call 12; first | exact bq (HI.out _) (fun d => lay_join _ _ _ d) | exact bq (HI.out _) (fun d => ⟨d, rfl⟩)))))
      refine wpQuiet_nil ?_
      rintro w' ⟨d, rfl⟩
      rw [lay_bw]
      go_wp2_with fail
      go_ret
      exact ⟨rfl, lay_ex _ _⟩
  · have ho : c < -5160000 ∨ (¬ c < -5160000 ∧ 5160000 < c) ∨ (¬ c < -5160000 ∧ ¬ 5160000 < c ∧ g < 0) ∨ (¬ c < -5160000 ∧ ¬ 5160000 < c ∧ ¬ g < 0 ∧ 180000 < g) ∨ (¬ c < -5160000 ∧ ¬ 5160000 < c ∧ ¬ g < 0 ∧ ¬ 180000 < g ∧ l < -1099511627776) ∨ (¬ c < -5160000 ∧ ¬ 5160000 < c ∧ ¬ g < 0 ∧ ¬ 180000 < g ∧ ¬ l < -1099511627776 ∧ 1099511627776 < l) := by omega
    clear hin
    rcases ho with a1 | ⟨a1, a2⟩ | ⟨a1, a2, a3⟩ | ⟨a1, a2, a3, a4⟩ | ⟨a1, a2, a3, a4, a5⟩ | ⟨a1, a2, a3, a4, a5, a6⟩
    all_goals
      refine lay_start ?_
      go_enter Try.func6, Try.ntmps6
      go_wp2_with (go_at_call 7; refine (law33_awake _).mono ?_; rintro e w' ⟨rfl, dA, rfl⟩; rw [lay_bw])
      go_ret
      exact ⟨rfl, lay_ex _ _⟩
end Go.Proofs.Ytakcfcekdngndaa
