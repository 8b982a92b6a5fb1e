/- Contracts and plain laws, several texts in one: Hz9 -/
import Derived.Test.YthjfadfebhjhbaaGreatProg
import Derived.WalkKit
import Derived.WalkSpells
import Derived.WalkLawsBesides
import Derived.Lib.Hide
import Derived.BigQuiet
import Derived.Test.YthjfadfebhjhbaaGreatPAA
import Derived.Test.YthjfadfebhjhbaaGreatPAB
import Derived.Test.YthjfadfebhjhbaaGreatPBO
import Derived.Test.YthjfadfebhjhbaaGreatPBP
/- The law HorizonOrder. -/
namespace Go.Proofs.YthjfadfebhjhbaaGreat
open Go.RowKit Go.Shelf

set_option maxHeartbeats 8000000 in
set_option maxRecDepth 100000 in
theorem law50_Order (vp : Value) (lp : List PgV) {w : World} (hp : PgsD (InB w) w vp lp) (vs : Value) (ls : List StarV) (hv : SlG stR w vs ls) (s : ByteArray) (_ : s.size ≤ maxLen) (a b : Int) (_ : (Lit.int .i64 a).wf = true) (_ : (Lit.int .i64 b).wf = true) (u v : Int) (_ : (Lit.int .i64 u).wf = true) (_ : (Lit.int .i64 v).wf = true) (x y : Int) (_ : (Lit.int .i64 x).wf = true) (_ : (Lit.int .i64 y).wf = true) (kk : Int) (hkk : (Lit.int .u32 kk).wf = true) :
    Calls Tryz.prog 4 #[vp, vs, .string s, (.agg #[.int .i64 (a), .int .i64 (b)]), (.agg #[.int .i64 (u), .int .i64 (v), .int .i64 (x), .int .i64 (y)]), .int .u32 kk] w fun e w' => e = .returned (.bool true) ∧ ∃ d, w' = bw w d := by
  have hkb : 0 ≤ kk ∧ kk ≤ 4294967295 := by
    simp [Lit.wf, IntKind.min, IntKind.max, IntKind.bits, IntKind.signed] at hkk; omega
  clear hkk
  have HAw := Lib.hid (fun W => law50_awake W)
  have HM := Lib.hid (fun L => law50_made vp vs lp ls s (lay w L) (hp.lay L) (inB_lay L) (hv.lay L))
  have HPt := Lib.hid (fun W => r50_Point u x W)
  obtain ⟨pa, pc, rfl⟩ := pgs_form hp
  obtain ⟨sa, sc, rfl⟩ := hv.form
  generalize ls.length = m at *
  generalize lp.length = n at *
  clear hp hv
  refine lay_start ?_
  go_enter Tryz.func4, Tryz.ntmps4
  go_wp2_with (first | (go_at_call 8; refine (HAw.out _).mono ?_; rintro e w' ⟨rfl, d1, rfl⟩; rw [lay_bw]))
  refine (HM.out _).mono ?_
  rintro e w' hm
  rcases hm with ⟨rfl, d4, rfl⟩ | ⟨hE, bk, w1, d4, rfl, rfl, hB⟩
  · rw [lay_bw]
    go_wp2_with fail
    go_ret
    exact ⟨rfl, lay_ex _ _⟩
  · have hk := newE_0 hE
    have HAb := Lib.hid (fun L => made_Above hB hk s a b u v x y L)
    by_cases h0 : abE lp ls s a b u v x y = 0
    · obtain ⟨ht, hpl, hl⟩ := abE_0 h0
      obtain ⟨hu, hpt⟩ := plcR_lat hpl
      obtain ⟨t1, t2, t3⟩ := timB_iff.1 ht
      obtain ⟨M, hM⟩ : ∃ M, b - a + 1 = M := ⟨_, rfl⟩
      obtain ⟨r, hr⟩ : ∃ r, kk % M = r := ⟨_, rfl⟩
      have hr0 : 0 ≤ r := by rw [← hr]; exact Int.emod_nonneg _ (by omega)
      have hr1 : r < M := by rw [← hr]; exact Int.emod_lt_of_pos _ (by omega)
      obtain ⟨N, hN⟩ : ∃ N, a + r = N := ⟨_, rfl⟩
      obtain ⟨o1, o2⟩ := ord_main (n := N) hk h0 (by omega) (by omega)
      have hin : insB N = true := decide_eq_true (by omega)
      obtain ⟨s1, s2⟩ := sun_ok hk hpt hin
      have HA2 := Lib.hid (fun L => made_Above hB hk s N N u v x y L)
      have HA3 := Lib.hid (fun L => made_Above hB hk sunS N N u u x x L)
      have HPh := Lib.hid (fun L => made_Phase hB hk u x N L)
      rw [h0] at HAb
      rw [o1] at HA2
      have kx : IntKind.i64.wrap kk = kk := IntWalk.i64_in _ (by omega)
      have k1 : IntKind.i64.wrap (b - a) = b - a := IntWalk.i64_in _ (by omega)
      have k2 : IntKind.i64.wrap (b - a + 1) = M := by rw [hM]; exact IntWalk.i64_in _ (by omega)
      have k3 : kk.tmod M = r := by rw [← hr]; exact Int.tmod_eq_emod_of_nonneg hkb.1
      have k4 : IntKind.i64.wrap r = r := IntWalk.i64_in _ (by omega)
      have k5 : IntKind.i64.wrap (a + r) = N := by rw [hN]; exact IntWalk.i64_in _ (by omega)
      have k6 : M ≠ 0 := by omega
      have k7 : (M == 0) = false := beq_eq_false_iff_ne.2 k6
      generalize abN lp ls s a b u v x y = n1 at *
      generalize abN lp ls s N N u v x y = n2 at *
      generalize abN lp ls sunS N N u u x x = n3 at *
      generalize abE lp ls sunS N N u u x x = E3 at *
      generalize (phR lp ls u x N).1 = ph at *
      generalize (phR lp ls u x N).2 = G at *
      clear hB hk hE HM HAw h0 ht hpl hl hu hpt t1 t2 t3 hM hr hr0 hr1 hN o1 hin hkb
      rw [lay_bw] at HAb HA2 HA3 HPh ⊢
      simp only [← lay_appG] at HAb HA2 HA3 HPh
      by_cases hz : n1 = 0
      · subst hz
        clear o2
        by_cases hG : G = 0
        · subst hG
          by_cases hE3 : E3 = 0
          · subst hE3
            obtain ⟨b1, b2, b3, b4⟩ := s2 rfl rfl
            clear s1 s2
            by_cases hph : ph = 0
            · subst hph
              clear b1 b2 b3 b4
              go_wp2_with fail
              refine (HAb.out [_]).mono ?_
              rintro e w' ⟨rfl, d5, rfl⟩
              rw [lay_bw]
              go_wp2_with fail
              refine region_bw (by kernel_rfl) (by kernel_rfl) ?_
              repeat (go_big_quiet_step ((first | fail)))
              refine wpQuiet_nil ?_
              rintro w' ⟨d, rfl⟩
              rw [lay_bw]
              go_wp2_with fail
              refine (HA2.out [_, _, _]).mono ?_
              rintro e w' ⟨rfl, d6, rfl⟩
              rw [lay_bw]
              go_wp2_with (go_at_call 18; refine (HPt.out _).mono ?_; rintro e w' ⟨rfl, d7, rfl⟩; rw [lay_bw])
              (first | (refine (HPh.out [_]).mono ?_) | (refine (HPh.out [_, _]).mono ?_) | (refine (HPh.out [_, _, _]).mono ?_) | (refine (HPh.out [_, _, _, _]).mono ?_) | (refine (HPh.out [_, _, _, _, _]).mono ?_) | (refine (HPh.out [_, _, _, _, _, _]).mono ?_) | (refine (HPh.out [_, _, _, _, _, _, _]).mono ?_) | (refine (HPh.out [_, _, _, _, _, _, _, _]).mono ?_) | (refine (HPh.out [_, _, _, _, _, _, _, _, _]).mono ?_) | (refine (HPh.out [_, _, _, _, _, _, _, _, _, _]).mono ?_))
              rintro e w' ⟨rfl, d8, rfl⟩
              rw [lay_bw]
              go_wp2_with fail
              (first | (refine (HA3.out [_]).mono ?_) | (refine (HA3.out [_, _]).mono ?_) | (refine (HA3.out [_, _, _]).mono ?_) | (refine (HA3.out [_, _, _, _]).mono ?_) | (refine (HA3.out [_, _, _, _, _]).mono ?_) | (refine (HA3.out [_, _, _, _, _, _]).mono ?_) | (refine (HA3.out [_, _, _, _, _, _, _]).mono ?_) | (refine (HA3.out [_, _, _, _, _, _, _, _]).mono ?_) | (refine (HA3.out [_, _, _, _, _, _, _, _, _]).mono ?_) | (refine (HA3.out [_, _, _, _, _, _, _, _, _, _]).mono ?_))
              rintro e w' ⟨rfl, d9, rfl⟩
              rw [lay_bw]
              go_wp2_with fail
              all_goals go_ret
              all_goals exact ⟨by first | rfl | simp_all, lay_ex _ _⟩
            · obtain rfl : n3 = -1 := b4.resolve_left hph
              have p1 : (ph == 0) = false := beq_eq_false_iff_ne.2 hph
              clear b3 b4
              go_wp2_with fail
              refine (HAb.out [_]).mono ?_
              rintro e w' ⟨rfl, d5, rfl⟩
              rw [lay_bw]
              go_wp2_with fail
              refine region_bw (by kernel_rfl) (by kernel_rfl) ?_
              repeat (go_big_quiet_step ((first | fail)))
              refine wpQuiet_nil ?_
              rintro w' ⟨d, rfl⟩
              rw [lay_bw]
              go_wp2_with fail
              refine (HA2.out [_, _, _]).mono ?_
              rintro e w' ⟨rfl, d6, rfl⟩
              rw [lay_bw]
              go_wp2_with (go_at_call 18; refine (HPt.out _).mono ?_; rintro e w' ⟨rfl, d7, rfl⟩; rw [lay_bw])
              (first | (refine (HPh.out [_]).mono ?_) | (refine (HPh.out [_, _]).mono ?_) | (refine (HPh.out [_, _, _]).mono ?_) | (refine (HPh.out [_, _, _, _]).mono ?_) | (refine (HPh.out [_, _, _, _, _]).mono ?_) | (refine (HPh.out [_, _, _, _, _, _]).mono ?_) | (refine (HPh.out [_, _, _, _, _, _, _]).mono ?_) | (refine (HPh.out [_, _, _, _, _, _, _, _]).mono ?_) | (refine (HPh.out [_, _, _, _, _, _, _, _, _]).mono ?_) | (refine (HPh.out [_, _, _, _, _, _, _, _, _, _]).mono ?_))
              rintro e w' ⟨rfl, d8, rfl⟩
              rw [lay_bw]
              go_wp2_with fail
              (first | (refine (HA3.out [_]).mono ?_) | (refine (HA3.out [_, _]).mono ?_) | (refine (HA3.out [_, _, _]).mono ?_) | (refine (HA3.out [_, _, _, _]).mono ?_) | (refine (HA3.out [_, _, _, _, _]).mono ?_) | (refine (HA3.out [_, _, _, _, _, _]).mono ?_) | (refine (HA3.out [_, _, _, _, _, _, _]).mono ?_) | (refine (HA3.out [_, _, _, _, _, _, _, _]).mono ?_) | (refine (HA3.out [_, _, _, _, _, _, _, _, _]).mono ?_) | (refine (HA3.out [_, _, _, _, _, _, _, _, _, _]).mono ?_))
              rintro e w' ⟨rfl, d9, rfl⟩
              rw [lay_bw]
              go_wp2_with fail
              all_goals go_ret
              all_goals exact ⟨by first | rfl | simp_all, lay_ex _ _⟩
          · obtain rfl : ph = 0 := s1 (.inr hE3)
            have p1 : (E3 != 0) = true := by simpa using hE3
            have p2 : (E3 == 0) = false := beq_eq_false_iff_ne.2 hE3
            clear s1 s2
            go_wp2_with fail
            refine (HAb.out [_]).mono ?_
            rintro e w' ⟨rfl, d5, rfl⟩
            rw [lay_bw]
            go_wp2_with fail
            refine region_bw (by kernel_rfl) (by kernel_rfl) ?_
            repeat (go_big_quiet_step ((first | fail)))
            refine wpQuiet_nil ?_
            rintro w' ⟨d, rfl⟩
            rw [lay_bw]
            go_wp2_with fail
            refine (HA2.out [_, _, _]).mono ?_
            rintro e w' ⟨rfl, d6, rfl⟩
            rw [lay_bw]
            go_wp2_with (go_at_call 18; refine (HPt.out _).mono ?_; rintro e w' ⟨rfl, d7, rfl⟩; rw [lay_bw])
            (first | (refine (HPh.out [_]).mono ?_) | (refine (HPh.out [_, _]).mono ?_) | (refine (HPh.out [_, _, _]).mono ?_) | (refine (HPh.out [_, _, _, _]).mono ?_) | (refine (HPh.out [_, _, _, _, _]).mono ?_) | (refine (HPh.out [_, _, _, _, _, _]).mono ?_) | (refine (HPh.out [_, _, _, _, _, _, _]).mono ?_) | (refine (HPh.out [_, _, _, _, _, _, _, _]).mono ?_) | (refine (HPh.out [_, _, _, _, _, _, _, _, _]).mono ?_) | (refine (HPh.out [_, _, _, _, _, _, _, _, _, _]).mono ?_))
            rintro e w' ⟨rfl, d8, rfl⟩
            rw [lay_bw]
            go_wp2_with fail
            (first | (refine (HA3.out [_]).mono ?_) | (refine (HA3.out [_, _]).mono ?_) | (refine (HA3.out [_, _, _]).mono ?_) | (refine (HA3.out [_, _, _, _]).mono ?_) | (refine (HA3.out [_, _, _, _, _]).mono ?_) | (refine (HA3.out [_, _, _, _, _, _]).mono ?_) | (refine (HA3.out [_, _, _, _, _, _, _]).mono ?_) | (refine (HA3.out [_, _, _, _, _, _, _, _]).mono ?_) | (refine (HA3.out [_, _, _, _, _, _, _, _, _]).mono ?_) | (refine (HA3.out [_, _, _, _, _, _, _, _, _, _]).mono ?_))
            rintro e w' ⟨rfl, d9, rfl⟩
            rw [lay_bw]
            go_wp2_with fail
            all_goals go_ret
            all_goals exact ⟨by first | rfl | simp_all, lay_ex _ _⟩
        · obtain rfl : ph = 0 := s1 (.inl hG)
          have p1 : (G != 0) = true := by simpa using hG
          have p2 : (G == 0) = false := beq_eq_false_iff_ne.2 hG
          clear s1 s2
          go_wp2_with fail
          refine (HAb.out [_]).mono ?_
          rintro e w' ⟨rfl, d5, rfl⟩
          rw [lay_bw]
          go_wp2_with fail
          refine region_bw (by kernel_rfl) (by kernel_rfl) ?_
          repeat (go_big_quiet_step ((first | fail)))
          refine wpQuiet_nil ?_
          rintro w' ⟨d, rfl⟩
          rw [lay_bw]
          go_wp2_with fail
          refine (HA2.out [_, _, _]).mono ?_
          rintro e w' ⟨rfl, d6, rfl⟩
          rw [lay_bw]
          go_wp2_with (go_at_call 18; refine (HPt.out _).mono ?_; rintro e w' ⟨rfl, d7, rfl⟩; rw [lay_bw])
          (first | (refine (HPh.out [_]).mono ?_) | (refine (HPh.out [_, _]).mono ?_) | (refine (HPh.out [_, _, _]).mono ?_) | (refine (HPh.out [_, _, _, _]).mono ?_) | (refine (HPh.out [_, _, _, _, _]).mono ?_) | (refine (HPh.out [_, _, _, _, _, _]).mono ?_) | (refine (HPh.out [_, _, _, _, _, _, _]).mono ?_) | (refine (HPh.out [_, _, _, _, _, _, _, _]).mono ?_) | (refine (HPh.out [_, _, _, _, _, _, _, _, _]).mono ?_) | (refine (HPh.out [_, _, _, _, _, _, _, _, _, _]).mono ?_))
          rintro e w' ⟨rfl, d8, rfl⟩
          rw [lay_bw]
          go_wp2_with fail
          (first | (refine (HA3.out [_]).mono ?_) | (refine (HA3.out [_, _]).mono ?_) | (refine (HA3.out [_, _, _]).mono ?_) | (refine (HA3.out [_, _, _, _]).mono ?_) | (refine (HA3.out [_, _, _, _, _]).mono ?_) | (refine (HA3.out [_, _, _, _, _, _]).mono ?_) | (refine (HA3.out [_, _, _, _, _, _, _]).mono ?_) | (refine (HA3.out [_, _, _, _, _, _, _, _]).mono ?_) | (refine (HA3.out [_, _, _, _, _, _, _, _, _]).mono ?_) | (refine (HA3.out [_, _, _, _, _, _, _, _, _, _]).mono ?_))
          rintro e w' ⟨rfl, d9, rfl⟩
          rw [lay_bw]
          go_wp2_with fail
          all_goals go_ret
          all_goals exact ⟨by first | rfl | simp_all, lay_ex _ _⟩
      · obtain rfl : n2 = n1 := o2 hz
        have z1 : (n2 != 0) = true := by simpa using hz
        have z2 : (n2 == 0) = false := beq_eq_false_iff_ne.2 hz
        clear o2
        by_cases hG : G = 0
        · subst hG
          by_cases hE3 : E3 = 0
          · subst hE3
            obtain ⟨b1, b2, b3, b4⟩ := s2 rfl rfl
            clear s1 s2
            by_cases hph : ph = 0
            · subst hph
              clear b1 b2 b3 b4
              go_wp2_with fail
              refine (HAb.out [_]).mono ?_
              rintro e w' ⟨rfl, d5, rfl⟩
              rw [lay_bw]
              go_wp2_with fail
              refine region_bw (by kernel_rfl) (by kernel_rfl) ?_
              repeat (go_big_quiet_step ((first | fail)))
              refine wpQuiet_nil ?_
              rintro w' ⟨d, rfl⟩
              rw [lay_bw]
              go_wp2_with fail
              refine (HA2.out [_, _, _]).mono ?_
              rintro e w' ⟨rfl, d6, rfl⟩
              rw [lay_bw]
              go_wp2_with (go_at_call 18; refine (HPt.out _).mono ?_; rintro e w' ⟨rfl, d7, rfl⟩; rw [lay_bw])
              (first | (refine (HPh.out [_]).mono ?_) | (refine (HPh.out [_, _]).mono ?_) | (refine (HPh.out [_, _, _]).mono ?_) | (refine (HPh.out [_, _, _, _]).mono ?_) | (refine (HPh.out [_, _, _, _, _]).mono ?_) | (refine (HPh.out [_, _, _, _, _, _]).mono ?_) | (refine (HPh.out [_, _, _, _, _, _, _]).mono ?_) | (refine (HPh.out [_, _, _, _, _, _, _, _]).mono ?_) | (refine (HPh.out [_, _, _, _, _, _, _, _, _]).mono ?_) | (refine (HPh.out [_, _, _, _, _, _, _, _, _, _]).mono ?_))
              rintro e w' ⟨rfl, d8, rfl⟩
              rw [lay_bw]
              go_wp2_with fail
              (first | (refine (HA3.out [_]).mono ?_) | (refine (HA3.out [_, _]).mono ?_) | (refine (HA3.out [_, _, _]).mono ?_) | (refine (HA3.out [_, _, _, _]).mono ?_) | (refine (HA3.out [_, _, _, _, _]).mono ?_) | (refine (HA3.out [_, _, _, _, _, _]).mono ?_) | (refine (HA3.out [_, _, _, _, _, _, _]).mono ?_) | (refine (HA3.out [_, _, _, _, _, _, _, _]).mono ?_) | (refine (HA3.out [_, _, _, _, _, _, _, _, _]).mono ?_) | (refine (HA3.out [_, _, _, _, _, _, _, _, _, _]).mono ?_))
              rintro e w' ⟨rfl, d9, rfl⟩
              rw [lay_bw]
              go_wp2_with fail
              all_goals go_ret
              all_goals exact ⟨by first | rfl | simp_all, lay_ex _ _⟩
            · obtain rfl : n3 = -1 := b4.resolve_left hph
              have p1 : (ph == 0) = false := beq_eq_false_iff_ne.2 hph
              clear b3 b4
              go_wp2_with fail
              refine (HAb.out [_]).mono ?_
              rintro e w' ⟨rfl, d5, rfl⟩
              rw [lay_bw]
              go_wp2_with fail
              refine region_bw (by kernel_rfl) (by kernel_rfl) ?_
              repeat (go_big_quiet_step ((first | fail)))
              refine wpQuiet_nil ?_
              rintro w' ⟨d, rfl⟩
              rw [lay_bw]
              go_wp2_with fail
              refine (HA2.out [_, _, _]).mono ?_
              rintro e w' ⟨rfl, d6, rfl⟩
              rw [lay_bw]
              go_wp2_with (go_at_call 18; refine (HPt.out _).mono ?_; rintro e w' ⟨rfl, d7, rfl⟩; rw [lay_bw])
              (first | (refine (HPh.out [_]).mono ?_) | (refine (HPh.out [_, _]).mono ?_) | (refine (HPh.out [_, _, _]).mono ?_) | (refine (HPh.out [_, _, _, _]).mono ?_) | (refine (HPh.out [_, _, _, _, _]).mono ?_) | (refine (HPh.out [_, _, _, _, _, _]).mono ?_) | (refine (HPh.out [_, _, _, _, _, _, _]).mono ?_) | (refine (HPh.out [_, _, _, _, _, _, _, _]).mono ?_) | (refine (HPh.out [_, _, _, _, _, _, _, _, _]).mono ?_) | (refine (HPh.out [_, _, _, _, _, _, _, _, _, _]).mono ?_))
              rintro e w' ⟨rfl, d8, rfl⟩
              rw [lay_bw]
              go_wp2_with fail
              (first | (refine (HA3.out [_]).mono ?_) | (refine (HA3.out [_, _]).mono ?_) | (refine (HA3.out [_, _, _]).mono ?_) | (refine (HA3.out [_, _, _, _]).mono ?_) | (refine (HA3.out [_, _, _, _, _]).mono ?_) | (refine (HA3.out [_, _, _, _, _, _]).mono ?_) | (refine (HA3.out [_, _, _, _, _, _, _]).mono ?_) | (refine (HA3.out [_, _, _, _, _, _, _, _]).mono ?_) | (refine (HA3.out [_, _, _, _, _, _, _, _, _]).mono ?_) | (refine (HA3.out [_, _, _, _, _, _, _, _, _, _]).mono ?_))
              rintro e w' ⟨rfl, d9, rfl⟩
              rw [lay_bw]
              go_wp2_with fail
              all_goals go_ret
              all_goals exact ⟨by first | rfl | simp_all, lay_ex _ _⟩
          · obtain rfl : ph = 0 := s1 (.inr hE3)
            have p1 : (E3 != 0) = true := by simpa using hE3
            have p2 : (E3 == 0) = false := beq_eq_false_iff_ne.2 hE3
            clear s1 s2
            go_wp2_with fail
            refine (HAb.out [_]).mono ?_
            rintro e w' ⟨rfl, d5, rfl⟩
            rw [lay_bw]
            go_wp2_with fail
            refine region_bw (by kernel_rfl) (by kernel_rfl) ?_
            repeat (go_big_quiet_step ((first | fail)))
            refine wpQuiet_nil ?_
            rintro w' ⟨d, rfl⟩
            rw [lay_bw]
            go_wp2_with fail
            refine (HA2.out [_, _, _]).mono ?_
            rintro e w' ⟨rfl, d6, rfl⟩
            rw [lay_bw]
            go_wp2_with (go_at_call 18; refine (HPt.out _).mono ?_; rintro e w' ⟨rfl, d7, rfl⟩; rw [lay_bw])
            (first | (refine (HPh.out [_]).mono ?_) | (refine (HPh.out [_, _]).mono ?_) | (refine (HPh.out [_, _, _]).mono ?_) | (refine (HPh.out [_, _, _, _]).mono ?_) | (refine (HPh.out [_, _, _, _, _]).mono ?_) | (refine (HPh.out [_, _, _, _, _, _]).mono ?_) | (refine (HPh.out [_, _, _, _, _, _, _]).mono ?_) | (refine (HPh.out [_, _, _, _, _, _, _, _]).mono ?_) | (refine (HPh.out [_, _, _, _, _, _, _, _, _]).mono ?_) | (refine (HPh.out [_, _, _, _, _, _, _, _, _, _]).mono ?_))
            rintro e w' ⟨rfl, d8, rfl⟩
            rw [lay_bw]
            go_wp2_with fail
            (first | (refine (HA3.out [_]).mono ?_) | (refine (HA3.out [_, _]).mono ?_) | (refine (HA3.out [_, _, _]).mono ?_) | (refine (HA3.out [_, _, _, _]).mono ?_) | (refine (HA3.out [_, _, _, _, _]).mono ?_) | (refine (HA3.out [_, _, _, _, _, _]).mono ?_) | (refine (HA3.out [_, _, _, _, _, _, _]).mono ?_) | (refine (HA3.out [_, _, _, _, _, _, _, _]).mono ?_) | (refine (HA3.out [_, _, _, _, _, _, _, _, _]).mono ?_) | (refine (HA3.out [_, _, _, _, _, _, _, _, _, _]).mono ?_))
            rintro e w' ⟨rfl, d9, rfl⟩
            rw [lay_bw]
            go_wp2_with fail
            all_goals go_ret
            all_goals exact ⟨by first | rfl | simp_all, lay_ex _ _⟩
        · obtain rfl : ph = 0 := s1 (.inl hG)
          have p1 : (G != 0) = true := by simpa using hG
          have p2 : (G == 0) = false := beq_eq_false_iff_ne.2 hG
          clear s1 s2
          go_wp2_with fail
          refine (HAb.out [_]).mono ?_
          rintro e w' ⟨rfl, d5, rfl⟩
          rw [lay_bw]
          go_wp2_with fail
          refine region_bw (by kernel_rfl) (by kernel_rfl) ?_
          repeat (go_big_quiet_step ((first | fail)))
          refine wpQuiet_nil ?_
          rintro w' ⟨d, rfl⟩
          rw [lay_bw]
          go_wp2_with fail
          refine (HA2.out [_, _, _]).mono ?_
          rintro e w' ⟨rfl, d6, rfl⟩
          rw [lay_bw]
          go_wp2_with (go_at_call 18; refine (HPt.out _).mono ?_; rintro e w' ⟨rfl, d7, rfl⟩; rw [lay_bw])
          (first | (refine (HPh.out [_]).mono ?_) | (refine (HPh.out [_, _]).mono ?_) | (refine (HPh.out [_, _, _]).mono ?_) | (refine (HPh.out [_, _, _, _]).mono ?_) | (refine (HPh.out [_, _, _, _, _]).mono ?_) | (refine (HPh.out [_, _, _, _, _, _]).mono ?_) | (refine (HPh.out [_, _, _, _, _, _, _]).mono ?_) | (refine (HPh.out [_, _, _, _, _, _, _, _]).mono ?_) | (refine (HPh.out [_, _, _, _, _, _, _, _, _]).mono ?_) | (refine (HPh.out [_, _, _, _, _, _, _, _, _, _]).mono ?_))
          rintro e w' ⟨rfl, d8, rfl⟩
          rw [lay_bw]
          go_wp2_with fail
          (first | (refine (HA3.out [_]).mono ?_) | (refine (HA3.out [_, _]).mono ?_) | (refine (HA3.out [_, _, _]).mono ?_) | (refine (HA3.out [_, _, _, _]).mono ?_) | (refine (HA3.out [_, _, _, _, _]).mono ?_) | (refine (HA3.out [_, _, _, _, _, _]).mono ?_) | (refine (HA3.out [_, _, _, _, _, _, _]).mono ?_) | (refine (HA3.out [_, _, _, _, _, _, _, _]).mono ?_) | (refine (HA3.out [_, _, _, _, _, _, _, _, _]).mono ?_) | (refine (HA3.out [_, _, _, _, _, _, _, _, _, _]).mono ?_))
          rintro e w' ⟨rfl, d9, rfl⟩
          rw [lay_bw]
          go_wp2_with fail
          all_goals go_ret
          all_goals exact ⟨by first | rfl | simp_all, lay_ex _ _⟩
    · have hn : abN lp ls s a b u v x y = 0 := by unfold abN; rw [if_neg h0]
      rw [hn] at HAb
      generalize abE lp ls s a b u v x y = E at *
      have g1 : (E != 0) = true := by simpa using h0
      have g2 : (E == 0) = false := beq_eq_false_iff_ne.2 h0
      clear hB hk hE HM HAw hn
      rw [lay_bw] at HAb ⊢
      simp only [← lay_appG] at HAb
      go_wp2_with fail
      refine (HAb.out [_]).mono ?_
      rintro e w' ⟨rfl, d5, rfl⟩
      rw [lay_bw]
      go_wp2_with fail
      go_ret
      exact ⟨rfl, lay_ex _ _⟩
end Go.Proofs.YthjfadfebhjhbaaGreat
