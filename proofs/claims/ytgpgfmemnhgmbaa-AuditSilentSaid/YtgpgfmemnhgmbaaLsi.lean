/- AuditSilent: the list of rounded values. -/
import Derived.Test.YtgpgfmemnhgmbaaProg
import Derived.Test.YtgpgfmemnhgmbaaLay
import Derived.Test.YtgpgfmemnhgmbaaRegion
import Derived.Test.YtgpgfmemnhgmbaaMix
import Derived.WalkKit
import Derived.WalkSpells
import Derived.WalkLawsBesides
import Derived.Lib.Hide
import Derived.BigQuiet
import Derived.Test.YtgpgfmemnhgmbaaPlain
import Derived.Test.YtgpgfmemnhgmbaaAngle
import Derived.Test.YtgpgfmemnhgmbaaLm2
import Derived.Test.YtgpgfmemnhgmbaaSil
namespace Go.Proofs.Ytgpgfmemnhgmbaa
open Go.RowKit

theorem frm_tmod {N : Int} : (N.tmod 216000 + 216000).tmod 216000 = N % 216000 := by
  have h1 := tmod_wrap N 216000 (by decide)
  have h2 := tmod_bd N 216000 (by decide)
  by_cases h : N.tmod 216000 < 0
  · have := h1.1 h
    rw [Int.tmod_eq_emod_of_nonneg (by omega)]; omega
  · have := h1.2 (by omega)
    rw [Int.tmod_eq_emod_of_nonneg (by omega)]; omega
set_option maxHeartbeats 4000000 in
set_option maxRecDepth 100000 in
theorem law15_rounded (v : Value) (l : List Int) (x s : Int) (wr : Bool) (w : World) (hs : Sl w v l) (hl0 : 0 < l.length) (hl : l.length ≤ 38) (hx : -2147483648 ≤ x ∧ x ≤ 2147483647) (hss : -2147483648 ≤ s ∧ s ≤ 2147483647)
    (hb : ∀ i, -64000 ≤ nth l i ∧ nth l i ≤ 64000) :
    Calls Try.prog 20 #[.int .i64 x, .int .i64 s, v, .bool wr] w (Rw w (rndL wr x s l (l.length + 2))) := by
  have HS := Lib.hid hs
  have HX := Lib.hid (fun i hi => xvl_bd (l := l) hx hss hb i hi)
  have HV := Lib.hid (fun i => slp_bd (l := l) hss hb i)
  have HB := Lib.hid hb
  obtain ⟨b, o, cap, rfl, -, -, hbb, hr⟩ := hs.open hl0
  have HR := Lib.hid hr
  obtain ⟨m, hm⟩ : ∃ m, l.length = m := ⟨_, rfl⟩
  have HM := Lib.hid hm
  rw [hm] at HS HR hl hl0 ⊢
  clear hs hr hm hb hx hss
  refine lay_start ?_
  go_enter Try.func20, Try.ntmps20
  go_wp2_with fail
  go_loopw [1, 9, 10, 17] (fun v1 v9 v10 v17 wr' => ∃ (k : Nat) (dd : Ext), k ≤ m + 2 ∧ v1 = .int .i64 (slp s l k) ∧ v10 = .int .i64 (xvl x s l k) ∧ v17 = .int .i64 (k : Int) ∧ wr' = lay w [.inr dd] ∧ Ow (lay w [.inr dd]) (lay w []).heap.size v9 (rndL wr x s l k)) (fun _ _ _ v17 _ => m + 2 - (intOf v17).toNat)
  case atStart => exact ⟨0, noExt _, Nat.zero_le _, rfl, rfl, rfl, (bw_noExt _).symm, Ow.nil _ _⟩
  case round =>
    obtain ⟨k, dd, hk, rfl, rfl, rfl, rfl, hown⟩ := hrel
    by_cases hlt : k < m + 2
    · have hst := rndL_step wr x s l k
      have hll := rndL_len wr x s l k
      have hX1 : xvl x s l (k + 1) = xvl x s l k + slp s l k := rfl
      have hS1 : slp s l (k + 1) = slp s l k + nth l k := rfl
      have hF : rndF wr x s l k = frm wr (rnd (xvl x s l k)) := rfl
      rw [hF] at hst
      obtain ⟨X0, X1⟩ := HX.out k (by omega)
      obtain ⟨S0, S1⟩ := HV.out k
      obtain ⟨N0, N1⟩ := HB.out k
      have hcell : k < m → w.cell? ⟨b, o + k, none⟩ = some (.int .i64 (nth l k)) := fun h => HR.out k h
      have hoff : ¬ k < m → nth l k = 0 := fun h => nth_off (by rw [HM.out]; omega)
      have x1 : (k : Int) < (m : Int) + 2 := by omega
      have HO := Lib.hid hown
      clear hown hF
      generalize rndL wr x s l k = R at *
      obtain ⟨R', hR'⟩ : ∃ R', rndL wr x s l (k + 1) = R' := ⟨_, rfl⟩
      obtain ⟨X', hX'⟩ : ∃ X', xvl x s l (k + 1) = X' := ⟨_, rfl⟩
      obtain ⟨S', hS'⟩ : ∃ S', slp s l (k + 1) = S' := ⟨_, rfl⟩
      rw [hR'] at hst
      rw [hX'] at hX1
      rw [hS'] at hS1
      have HRE : Hid (R' = rndL wr x s l (k + 1)) := Lib.hid hR'.symm
      have HXE : Hid (X' = xvl x s l (k + 1)) := Lib.hid hX'.symm
      have HSE : Hid (S' = slp s l (k + 1)) := Lib.hid hS'.symm
      clear hR' hX' hS'
      generalize xvl x s l k = X at *
      generalize slp s l k = S at *
      generalize nth l k = N at *
      have hq : (X + 32) / 64 = rnd X := rfl
      have q0 : -10000000000 ≤ rnd X ∧ rnd X ≤ 10000000000 := by rw [← hq]; omega
      have lw : (Lit.int .i64 (frm wr (rnd X))).wf = true := by
        refine lit_bd ?_
        unfold frm
        split <;> omega
      obtain ⟨Q, hQ⟩ : ∃ Q, rnd X = Q := ⟨_, rfl⟩
      rw [hQ] at hq hst lw q0
      clear hQ
      obtain ⟨q1, q2⟩ := q0
      have HX' := Lib.hid hX1
      have HS' := Lib.hid hS1
      have HT := Lib.hid hst
      have ft : (Q.tmod 216000 + 216000).tmod 216000 = Q % 216000 := frm_tmod
      have t0 := tmod_bd Q 216000 (by decide)
      obtain ⟨t1, t2⟩ := t0
      clear hX1 hS1 hst
      cases wr
      · by_cases hkm : k < m
        · have hc := hcell hkm
          have x2 : (k : Int) < (m : Int) := by omega
          clear hcell hoff
          go_wp2_with (first | (at_builtin; refine push_int rfl _ _ rfl (lay w []) _ (Q) 3 _ _ _ ?_ (ow_on (A := [_]) HO.out) ?_ rfl rfl (by omega) lw ?_; exact lay_below (A := [_, _]); exact lay_get w _ 0 _ rfl; intro v' d' hv'))
          go_roundw
          case rel => exact ⟨k + 1, d', by omega, congrArg (Value.int .i64) (HS'.out.symm.trans HSE.out), congrArg (Value.int .i64) (HX'.out.symm.trans HXE.out), by go_num, rfl, by rw [← HRE.out, HT.out]; exact hv'⟩
          case measure => simp [intOf]; omega
        · have hz := hoff hkm
          have x2 : ¬ (k : Int) < (m : Int) := by omega
          clear hcell hoff
          subst hz
          go_wp2_with (first | (at_builtin; refine push_int rfl _ _ rfl (lay w []) _ (Q) 3 _ _ _ ?_ (ow_on (A := [_]) HO.out) ?_ rfl rfl (by omega) lw ?_; exact lay_below (A := [_, _]); exact lay_get w _ 0 _ rfl; intro v' d' hv'))
          go_roundw
          case rel => exact ⟨k + 1, d', by omega, congrArg (Value.int .i64) ((Int.add_zero S).symm.trans (HS'.out.symm.trans HSE.out)), congrArg (Value.int .i64) (HX'.out.symm.trans HXE.out), by go_num, rfl, by rw [← HRE.out, HT.out]; exact hv'⟩
          case measure => simp [intOf]; omega
      · by_cases hkm : k < m
        · have hc := hcell hkm
          have x2 : (k : Int) < (m : Int) := by omega
          clear hcell hoff
          go_wp2_with (first | (at_builtin; refine push_int rfl _ _ rfl (lay w []) _ ((Q % 216000)) 3 _ _ _ ?_ (ow_on (A := [_]) HO.out) ?_ rfl rfl (by omega) lw ?_; exact lay_below (A := [_, _]); exact lay_get w _ 0 _ rfl; intro v' d' hv'))
          go_roundw
          case rel => exact ⟨k + 1, d', by omega, congrArg (Value.int .i64) (HS'.out.symm.trans HSE.out), congrArg (Value.int .i64) (HX'.out.symm.trans HXE.out), by go_num, rfl, by rw [← HRE.out, HT.out]; exact hv'⟩
          case measure => simp [intOf]; omega
        · have hz := hoff hkm
          have x2 : ¬ (k : Int) < (m : Int) := by omega
          clear hcell hoff
          subst hz
          go_wp2_with (first | (at_builtin; refine push_int rfl _ _ rfl (lay w []) _ ((Q % 216000)) 3 _ _ _ ?_ (ow_on (A := [_]) HO.out) ?_ rfl rfl (by omega) lw ?_; exact lay_below (A := [_, _]); exact lay_get w _ 0 _ rfl; intro v' d' hv'))
          go_roundw
          case rel => exact ⟨k + 1, d', by omega, congrArg (Value.int .i64) ((Int.add_zero S).symm.trans (HS'.out.symm.trans HSE.out)), congrArg (Value.int .i64) (HX'.out.symm.trans HXE.out), by go_num, rfl, by rw [← HRE.out, HT.out]; exact hv'⟩
          case measure => simp [intOf]; omega
    · obtain rfl : k = m + 2 := by omega
      have x1 : ¬ ((m + 2 : Nat) : Int) < (m : Int) + 2 := by omega
      have HO := Lib.hid hown
      clear hown
      generalize rndL wr x s l (m + 2) = R at *
      generalize slp s l (m + 2) = S at *
      generalize xvl x s l (m + 2) = X at *
      go_wp2
      go_ret
      obtain ⟨y, hy⟩ := lay_ex w [.inr dd]
      exact ⟨_, y, rfl, hy, by rw [← hy]; exact HO.out⟩
end Go.Proofs.Ytgpgfmemnhgmbaa
