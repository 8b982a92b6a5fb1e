/- Contracts and plain laws, several texts in one: Lpr -/
import Derived.Test.YtlkphcjlgbimkaaGreatProg
import Derived.WalkKit
import Derived.WalkSpells
import Derived.WalkLawsBesides
import Derived.Lib.Hide
import Derived.BigQuiet
import Derived.Test.YtlkphcjlgbimkaaGreatBAA
import Derived.Test.YtlkphcjlgbimkaaGreatBAB
import Derived.Test.YtlkphcjlgbimkaaGreatBBC
/- The law AlmanacParts. -/
namespace Go.Proofs.YtlkphcjlgbimkaaGreat
open Go.RowKit Go.Shelf

set_option maxHeartbeats 2000000 in
set_option maxRecDepth 100000 in
theorem law17_within (a0 a1 b0 b1 : Int) (w : World) (ha : validB a0 a1 = true) (hat : turnLo a0 a1 = a0 ∧ turnHi a0 a1 = a1) (hb : validB b0 b1 = true) (hbt : turnLo b0 b1 = b0 ∧ turnHi b0 b1 = b1) (h : Dia a0 a1 b0 b1) :
    Calls Tryz.prog 19 #[(.agg #[.int .i64 (a0), .int .i64 (a1)]), (.agg #[.int .i64 (b0), .int .i64 (b1)])] w fun e w' => e = .returned (.bool true) ∧ ∃ d, w' = bw w d := by
  obtain ⟨v1, v2, v3⟩ := validB_iff.1 ha
  obtain ⟨u1, u2, u3⟩ := validB_iff.1 hb
  have HT := Lib.hid (fun W => ref05_Turn a0 a1 W (by omega) v1 (by omega))
  rw [hat.1, hat.2] at HT
  by_cases hw : 21600000 ≤ b1 - b0
  · clear HT hat hbt h ha hb
    refine lay_start ?_
    go_enter Tryz.func19, Tryz.ntmps19
    go_wp2_with fail
    go_ret
    exact ⟨rfl, lay_ex _ _⟩
  · have hd : a1 - a0 < 21600000 ∧ (a0 - b0) % 21600000 + (a1 - a0) ≤ b1 - b0 := by unfold Dia at h; omega
    have hw2 : ¬ 21600000 ≤ a1 - a0 := by omega
    have ta := hat.1
    unfold turnLo at ta
    rw [if_neg hw2] at ta
    have tb := hbt.1
    unfold turnLo at tb
    rw [if_neg hw] at tb
    have hm := di_moves (a0 := a0) (a1 := a1) (b0 := b0) (b1 := b1) (by omega) (by omega) (by omega) (by omega) (by omega) h
    have I0 := Lib.hid (fun W => ref05_Inside (a0 + -21600000) (a1 + -21600000) b0 b1 W)
    have I1 := Lib.hid (fun W => ref05_Inside a0 a1 b0 b1 W)
    have I2 := Lib.hid (fun W => ref05_Inside (a0 + 21600000) (a1 + 21600000) b0 b1 W)
    have hor : insideB a0 a1 b0 b1 = true ∨ insideB (a0 + 21600000) (a1 + 21600000) b0 b1 = true := by
      rcases hm with h | h
      · exact .inl (insideB_iff.2 h)
      · exact .inr (insideB_iff.2 h)
    have z0 : 0 ≤ a0 := by omega
    have z1 : a0 ≤ 21599999 := by omega
    have z2 : a1 ≤ 43200000 := by omega
    have z3 : ¬ 21600000 ≤ a1 - a0 := by omega
    clear hm hd ta tb hat hbt h ha hb hw2
    generalize insideB (a0 + -21600000) (a1 + -21600000) b0 b1 = i0 at *
    generalize insideB a0 a1 b0 b1 = i1 at *
    generalize insideB (a0 + 21600000) (a1 + 21600000) b0 b1 = i2 at *
    refine lay_start ?_
    go_enter Tryz.func19, Tryz.ntmps19
    go_wp2_with (go_at_call 71; refine (HT.out _).mono ?_; rintro e w' ⟨rfl, d1, rfl⟩)
    refine wp_loop_rounds 4 ?_
    rw [rounds_succ]
    go_wp2_with fail
    refine (I0.out _).mono ?_
    rintro e w' ⟨rfl, d2, rfl⟩
    cases i0
    · go_wp2_with fail
      rw [rounds_succ]
      go_wp2_with fail
      refine (I1.out _).mono ?_
      rintro e w' ⟨rfl, d3, rfl⟩
      cases i1
      · obtain rfl : i2 = true := by simpa using hor
        go_wp2_with fail
        rw [rounds_succ]
        go_wp2_with (go_at_call 20; refine (I2.out _).mono ?_; rintro e w' ⟨rfl, d4, rfl⟩)
        go_ret
        exact ⟨rfl, lay_ex _ _⟩
      · go_wp2_with fail
        go_ret
        exact ⟨rfl, lay_ex _ _⟩
    · go_wp2_with fail
      go_ret
      exact ⟨rfl, lay_ex _ _⟩
set_option maxHeartbeats 4000000 in
set_option maxRecDepth 100000 in
theorem law17_Parts (vp : Value) (lp : List PgV) {w : World} (hp : PgsD (InB w) w vp lp) (vs : Value) (ls : List StarV) (hv : SlG stR w vs ls) (s : ByteArray) (_ : s.size ≤ maxLen) (a b : Int) (_ : (Lit.int .i64 a).wf = true) (_ : (Lit.int .i64 b).wf = true) (at_ : Int) (wa : (Lit.int .u32 at_).wf = true) :
    Calls Tryz.prog 4 #[vp, vs, .string s, (.agg #[.int .i64 (a), .int .i64 (b)]), .int .u32 at_] w fun e w' => e = .returned (.bool true) ∧ ∃ d, w' = bw w d := by
  have hat : 0 ≤ at_ ∧ at_ ≤ 4294967295 := by simpa [Lit.wf, IntKind.min, IntKind.max, IntKind.bits, IntKind.signed] using wa
  have HAw := Lib.hid (fun W => law17_awake W)
  have HLa := Lib.hid (fun L => law17_large vp vs lp ls (lay w L) (hp.lay L) (hv.lay L))
  have HMn := Lib.hid (fun L h => law17_made_no vp vs lp ls (lay w L) (hp.lay L) (inB_lay L) (hv.lay L) h)
  have HMy := Lib.hid (fun L h => law17_made_yes vp vs lp ls (lay w L) (hp.lay L) (inB_lay L) (hv.lay L) h)
  have HV := Lib.hid (fun W => ref10_Valid a b W)
  have hti := timB_iff (a := a) (b := b)
  obtain ⟨pa, pc, rfl⟩ := pgs_form hp
  obtain ⟨sa, sc, rfl⟩ := hv.form
  generalize ls.length = m at *
  generalize lp.length = n at *
  clear hp hv wa
  refine lay_start ?_
  go_enter Tryz.func4, Tryz.ntmps4
  go_wp2_with (first | (go_at_call 11; refine (HAw.out _).mono ?_; rintro e w' ⟨rfl, d1, rfl⟩))
  refine (HLa.out _).mono ?_
  rintro e w' ⟨r, rfl, d2, rfl⟩
  rw [lay_bw]
  cases r
  · by_cases hs : (100 : Int) < (s.size : Int)
    · go_wp2_with fail
      go_ret
      exact ⟨rfl, lay_ex _ _⟩
    · cases ht : timB a b
      · rw [ht] at HV
        clear hti ht
        go_wp2_with (go_at_call 17; refine (HV.out _).mono ?_; rintro e w' ⟨rfl, dV, rfl⟩)
        go_ret
        exact ⟨rfl, lay_ex _ _⟩
      · rw [ht] at HV
        obtain ⟨g1, g2, g3⟩ := hti.1 ht
        obtain ⟨N, hN⟩ : ∃ N, N = a + at_ % (b - a + 1) := ⟨_, rfl⟩
        have hN1 : 0 ≤ at_ % (b - a + 1) ∧ at_ % (b - a + 1) < b - a + 1 := ⟨Int.emod_nonneg _ (by omega), Int.emod_lt_of_pos _ (by omega)⟩
        have hN2 : a ≤ N ∧ N ≤ b := by omega
        have HT := Lib.hid ht
        have HN2 := Lib.hid hN2
        clear hti ht
        go_wp2_with (go_at_call 17; refine (HV.out _).mono ?_; rintro e w' ⟨rfl, dV, rfl⟩)
        by_cases hE : newE lp ls = 0
        · have hk := newE_0 hE
          refine (HMy.out _ hE).mono ?_
          rintro e w' ⟨bk, d3, rfl, rfl, hB⟩
          have HW := made_Where hB hk
          have hpart := whR_part (lp := lp) (ls := ls) (s := s) (a := a) (b := b) (n := N) hk.ok HN2.out.1 HN2.out.2
          have hrg := whR_right (lp := lp) (ls := ls) (s := s) (a := a) (b := b) hk.ok hk.cat
          have hrn := whR_right (lp := lp) (ls := ls) (s := s) (a := N) (b := N) hk.ok hk.cat
          have hee := whR_e (lp := lp) (ls := ls) (s := s) HT.out
          have HW1 := Lib.hid (fun L => HW.out s a b L)
          have HW2 := Lib.hid (fun L => HW.out s N N L)
          rw [gv_eta] at HW1 HW2
          clear hB hk HW hE HMy HMn HLa HAw
          rw [lay_bw] at HW1 HW2 ⊢
          simp only [← lay_appG] at HW1 HW2
          generalize (whR lp ls s a b).2 = E1 at *
          generalize (whR lp ls s a b).1 = G1 at *
          generalize (whR lp ls s N N).2 = E2 at *
          generalize (whR lp ls s N N).1 = G2 at *
          obtain ⟨r1, r2, r3, r4, r5, r6, r7, r8⟩ := G1
          obtain ⟨q1, q2, q3, q4, q5, q6, q7, q8⟩ := G2
          have y0 : ¬ b - a + 1 = 0 := by omega
          have y1 : IntKind.i64.wrap (b - a) = b - a := IntWalk.i64_in _ (by omega)
          have y2 : IntKind.i64.wrap (b - a + 1) = b - a + 1 := IntWalk.i64_in _ (by omega)
          have y3 : at_.tmod (b - a + 1) = at_ % (b - a + 1) := Int.tmod_eq_emod_of_nonneg hat.1
          have y4 : IntKind.i64.wrap (a + at_ % (b - a + 1)) = N := by rw [hN]; exact IntWalk.i64_in _ (by omega)
          have y5 : IntKind.i64.wrap at_ = at_ := IntWalk.i64_in _ (by omega)
          clear hN hN1 hN2
          dsimp only at *
          rcases hee with e | e | e | e
          · subst e
            obtain ⟨he2, hgh, ⟨hc1, hc2⟩, ⟨hs1, hs2⟩, ⟨hp1, hp2⟩⟩ := hpart rfl
            subst he2
            have R1 := hrg rfl
            have R2 := hrn rfl
            have HR1 := Lib.hid (fun W => law17_right _ _ _ _ _ _ _ _ W R1)
            have HR2 := Lib.hid (fun W => law17_right _ _ _ _ _ _ _ _ W R2)
            have HWi := Lib.hid (fun W => law17_within q1 q2 r1 r2 W R2.1 ⟨R2.2.1, R2.2.2.1⟩ R1.1 ⟨R1.2.1, R1.2.2.1⟩ hgh)
            have HI1 := Lib.hid (fun W => ref05_Inside q3 q4 r3 r4 W)
            have HI2 := Lib.hid (fun W => ref05_Inside q5 q6 r5 r6 W)
            have HI3 := Lib.hid (fun W => ref05_Inside q7 q8 r7 r8 W)
            rw [insideB_iff.2 ⟨hc1, hc2⟩] at HI1
            rw [insideB_iff.2 ⟨hs1, hs2⟩] at HI2
            rw [insideB_iff.2 ⟨hp1, hp2⟩] at HI3
            clear R1 R2 hrg hrn hgh hc1 hc2 hs1 hs2 hp1 hp2 hpart
            dsimp only at HR1 HR2
            go_wp2_with fail
            refine region_bw (by kernel_rfl) (by kernel_rfl) ?_
            repeat (go_big_quiet_step ((first | fail)))
            refine wpQuiet_nil ?_
            rintro w' ⟨d, rfl⟩
            rw [lay_bw]
            go_wp2_with fail
            refine (HW1.out [_]).mono ?_
            rintro e w' ⟨rfl, d4, rfl⟩
            rw [lay_bw]
            go_wp2_with fail
            refine (HW2.out [_, _, _]).mono ?_
            rintro e w' ⟨rfl, d5, rfl⟩
            rw [lay_bw]
            go_wp2_with (first | (go_at_call 18; (with_reducible refine (HR1.out _).mono ?_); rintro e w' ⟨rfl, d8, rfl⟩) | (go_at_call 18; (with_reducible refine (HR2.out _).mono ?_); rintro e w' ⟨rfl, d8, rfl⟩) | (go_at_call 19; refine (HWi.out _).mono ?_; rintro e w' ⟨rfl, d9, rfl⟩) | (go_at_call 20; first | ((with_reducible refine (HI1.out _).mono ?_); rintro e w' ⟨rfl, dA, rfl⟩) | ((with_reducible refine (HI2.out _).mono ?_); rintro e w' ⟨rfl, dB, rfl⟩) | ((with_reducible refine (HI3.out _).mono ?_); rintro e w' ⟨rfl, dC, rfl⟩)))
            go_ret
            exact ⟨rfl, lay_ex _ _⟩
          all_goals
            subst e
            clear hpart hrg hrn
            go_wp2_with fail
            refine region_bw (by kernel_rfl) (by kernel_rfl) ?_
            repeat (go_big_quiet_step ((first | fail)))
            refine wpQuiet_nil ?_
            rintro w' ⟨d, rfl⟩
            rw [lay_bw]
            go_wp2_with fail
            refine (HW1.out [_]).mono ?_
            rintro e w' ⟨rfl, d4, rfl⟩
            rw [lay_bw]
            go_wp2_with fail
            refine (HW2.out [_, _, _]).mono ?_
            rintro e w' ⟨rfl, d5, rfl⟩
            rw [lay_bw]
            go_wp2_with fail
            go_ret
            exact ⟨rfl, lay_ex _ _⟩
        · refine (HMn.out _ hE).mono ?_
          rintro e w' ⟨rfl, d3, rfl⟩
          go_wp2_with fail
          go_ret
          exact ⟨rfl, lay_ex _ _⟩
  · go_wp2_with fail
    go_ret
    exact ⟨rfl, lay_ex _ _⟩
end Go.Proofs.YtlkphcjlgbimkaaGreat
