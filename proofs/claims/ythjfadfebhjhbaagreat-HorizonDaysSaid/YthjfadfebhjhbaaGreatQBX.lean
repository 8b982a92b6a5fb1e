/- Contracts and plain laws, several texts in one: HxC -/
import Derived.Test.YthjfadfebhjhbaaGreatProg
import Derived.WalkKit
import Derived.WalkSpells
import Derived.WalkLawsBesides
import Derived.Lib.Hide
import Derived.BigQuiet
import Derived.Test.YthjfadfebhjhbaaGreatQAA
import Derived.Test.YthjfadfebhjhbaaGreatQAB
import Derived.Test.YthjfadfebhjhbaaGreatQBV
/- RiseSet: the reference's. -/
namespace Go.Proofs.YthjfadfebhjhbaaGreat
open Go.RowKit Go.Shelf

set_option maxHeartbeats 8000000 in
set_option maxRecDepth 100000 in
theorem r50_RiseSet (G : GeoV) (we : Int) (S : Int → Int → Int) (E : Int → Int) (vp vs : Value) (s : ByteArray) (u x f : Int) (w : World) (HW : Hid (∀ L, Calls Tryz.prog 30 #[.agg #[vp, vs], .string s, (.agg #[.int .i64 (f), .int .i64 (f)])] (lay w L) fun e w' => e = .returned (.tuple #[gv G, .int .i64 we]) ∧ ∃ d, w' = bw (lay w L) d)) (HS0 : ∀ n, RSide (S n) E vp vs s u x n w) (hsz : (0 ≤ G.e ∧ G.e ≤ 100000) ∧ (0 ≤ G.f ∧ G.f ≤ 100000) ∧ (0 ≤ G.g ∧ G.g ≤ 100000) ∧ (0 ≤ G.h ∧ G.h ≤ 100000)) (hS3 : ∀ n m, S n m = -1 ∨ S n m = 0 ∨ S n m = 1) :
    Calls Tryz.prog 28 #[.agg #[vp, vs], .string s, (.agg #[.int .i64 (u), .int .i64 (x)]), .int .i64 f] w fun e w' => e = .returned (rsV (rsF G we S E f)) ∧ ∃ d, w' = bw w d := by
  rw [gv_eta] at HW
  have HD := Lib.hid (fun W => r50_day f W)
  by_cases hd : dyE f = 0
  · obtain ⟨i1, i2, f0, f1⟩ := dyE_0 hd
    rw [hd] at HD
    have k1 : IntKind.i64.wrap (f + 86400000) = f + 86400000 := IntWalk.i64_in _ (by omega)
    by_cases hw : we = 0
    · have hcases : ∃ a2 b2 n, IntKind.i64.wrap (G.g + G.h) = G.g + G.h ∧ IntKind.i64.wrap (G.e + G.f) = G.e + G.f ∧ (G.g + G.h) / 2 = a2 ∧ (G.e + G.f) / 2 = b2 ∧ IntKind.i64.wrap (a2 - b2) = a2 - b2 ∧ IntKind.i64.wrap (a2 - b2 - 34000) = n ∧ a2 - b2 - 34000 = n ∧ rsN G = n := by
        refine ⟨(G.g + G.h) / 2, (G.e + G.f) / 2, rsN G, ?_, ?_, rfl, rfl, ?_, ?_, rfl, rfl⟩
        all_goals (try unfold rsN)
        all_goals exact IntWalk.i64_in _ (by omega)
      obtain ⟨a2, b2, n, kA, kB, hA, hB, kD, kN, hN, hn⟩ := hcases
      have FA := Lib.hid (fun W => ref05_Floor (G.g + G.h) 2 W (by decide) (by omega) (by omega))
      have FB := Lib.hid (fun W => ref05_Floor (G.e + G.f) 2 W (by decide) (by omega) (by omega))
      rw [hA] at FA
      rw [hB] at FB
      by_cases ha : n < -5400000 ∨ 5400000 < n
      · have hR := Lib.hid (rsF_alt (S := S) (E := E) (G := G) hd hw (by rw [hn]; exact ha))
        subst hw
        clear hd hn hS3 HS0 hsz i1 i2 f0 f1 hN hA hB
        obtain ⟨r1, r2, r3, r4, r5, r6, r7, r8⟩ := G
        dsimp only at HW kA kB FA FB
        rcases ha with ha | ha
        · refine lay_start ?_
          go_enter Tryz.func28, Tryz.ntmps28
          go_wp2_with (first | (go_at_call 56; refine (HD.out _).mono ?_; rintro e w' ⟨rfl, d1, rfl⟩; rw [lay_bw]) | (go_at_call 30; refine (HW.out _).mono ?_; rintro e w' ⟨rfl, d6, rfl⟩; rw [lay_bw]))
          refine region_bw (by kernel_rfl) (by kernel_rfl) ?_
          repeat (go_big_quiet_step ((first | (go_at_call 58; first | ((with_reducible refine bqs (FA.out _) ?_); exact ⟨_, rfl⟩) | ((with_reducible refine bqs (FB.out _) ?_); exact ⟨_, rfl⟩)))))
          refine wpQuiet_nil ?_
          rintro w' ⟨d, rfl⟩
          rw [lay_bw]
          go_wp2_with fail
          exact bodyPost_ret (v := .tuple #[(.agg #[.int .i64 (0), .int .i64 (0)]), (.agg #[.int .i64 (0), .int .i64 (0)]), .int .i64 2]) (by simp [results, Tryz.results28, go_sem]) rfl ⟨by rw [hR.out]; rfl, lay_ex _ _⟩
        · have ha2 : ¬ n < -5400000 := by omega
          refine lay_start ?_
          go_enter Tryz.func28, Tryz.ntmps28
          go_wp2_with (first | (go_at_call 56; refine (HD.out _).mono ?_; rintro e w' ⟨rfl, d1, rfl⟩; rw [lay_bw]) | (go_at_call 30; refine (HW.out _).mono ?_; rintro e w' ⟨rfl, d6, rfl⟩; rw [lay_bw]))
          refine region_bw (by kernel_rfl) (by kernel_rfl) ?_
          repeat (go_big_quiet_step ((first | (go_at_call 58; first | ((with_reducible refine bqs (FA.out _) ?_); exact ⟨_, rfl⟩) | ((with_reducible refine bqs (FB.out _) ?_); exact ⟨_, rfl⟩)))))
          refine wpQuiet_nil ?_
          rintro w' ⟨d, rfl⟩
          rw [lay_bw]
          go_wp2_with fail
          exact bodyPost_ret (v := .tuple #[(.agg #[.int .i64 (0), .int .i64 (0)]), (.agg #[.int .i64 (0), .int .i64 (0)]), .int .i64 2]) (by simp [results, Tryz.results28, go_sem]) rfl ⟨by rw [hR.out]; rfl, lay_ex _ _⟩
      · obtain ⟨T, hT⟩ : ∃ T, f + 86400000 = T := ⟨_, rfl⟩
        rw [hT] at k1 i2 f1
        have HC := Lib.hid (fun L => r50_Crossings (S n) E vp vs s u x n f T (lay w L) ((HS0 n).on L) (by omega) (by omega) f0 (by omega) (hS3 n))
        have hR1 := Lib.hid (fun h4 => rsF_err (S := S) (E := E) (G := G) hd hw (by rw [hn]; exact ha) h4)
        have hR2 := Lib.hid (fun h4 h5 => rsF_non (S := S) (E := E) (G := G) hd hw (by rw [hn]; exact ha) h4 (l := crF (S n) (smp f T) 0 0) (by rw [hn, hT]) h5)
        have hR3 := Lib.hid (fun h4 h5 => rsF_two (S := S) (E := E) (G := G) hd hw (by rw [hn]; exact ha) h4 (l := crF (S n) (smp f T) 0 0) (by rw [hn, hT]) h5)
        rw [hT] at hR1 hR2 hR3
        have hlen : (crF (S n) (smp f T) 0 0).length ≤ 145 := by
          have h1 := crF_len (S n) (smp f T) 0 0
          have h2 := smp_len (f := f) (t := T) 144 (by omega)
          omega
        have ha1 : ¬ n < -5400000 := by omega
        have ha2 : ¬ 5400000 < n := by omega
        subst hw
        clear hd hn ha hS3 HS0 hsz i1 i2 f0 f1 hN hA hB
        generalize hrs : rsF G 0 S E f = RR at *
        clear hrs
        obtain ⟨r1, r2, r3, r4, r5, r6, r7, r8⟩ := G
        dsimp only at HW kA kB FA FB
        refine lay_start ?_
        go_enter Tryz.func28, Tryz.ntmps28
        go_wp2_with (first | (go_at_call 56; refine (HD.out _).mono ?_; rintro e w' ⟨rfl, d1, rfl⟩; rw [lay_bw]) | (go_at_call 30; refine (HW.out _).mono ?_; rintro e w' ⟨rfl, d6, rfl⟩; rw [lay_bw]))
        refine region_bw (by kernel_rfl) (by kernel_rfl) ?_
        repeat (go_big_quiet_step ((first | (go_at_call 58; first | ((with_reducible refine bqs (FA.out _) ?_); exact ⟨_, rfl⟩) | ((with_reducible refine bqs (FB.out _) ?_); exact ⟨_, rfl⟩)))))
        refine wpQuiet_nil ?_
        rintro w' ⟨d, rfl⟩
        rw [lay_bw]
        go_wp2_with fail
        refine (HC.out _).mono ?_
        rintro e w' ⟨⟨d5, rfl⟩, hcase⟩
        rw [lay_bw] at hcase ⊢
        rcases hcase with ⟨her, rfl⟩ | ⟨her, v, rfl, hv⟩
        · have hR := Lib.hid (hR1.out her)
          obtain ⟨EX, hEX⟩ : ∃ EX, erF E (smp f T) = EX := ⟨_, rfl⟩
          rw [hEX] at her hR ⊢
          have g1 : (EX != 0) = true := by simpa using her
          have g2 : (EX == 0) = false := beq_eq_false_iff_ne.2 her
          clear hR1 hR2 hR3 hEX HC HD FA FB HW
          go_wp2_with fail
          exact bodyPost_ret (v := .tuple #[(.agg #[.int .i64 (0), .int .i64 (0)]), (.agg #[.int .i64 (0), .int .i64 (0)]), .int .i64 EX]) (by simp [results, Tryz.results28, go_sem]) rfl ⟨by rw [hR.out]; rfl, lay_ex _ _⟩
        · have hR4 := Lib.hid (fun h5 => hR2.out her h5)
          have hR5 := Lib.hid (fun h5 => hR3.out her h5)
          clear hR1 hR2 hR3 her HC HD FA FB HW
          generalize crF (S n) (smp f T) 0 0 = l at *
          have HV := Lib.hid hv
          have HLn := Lib.hid hlen
          clear hv hlen
          go_wp2_with fail
          refine (r50_way v l true _ HV.out HLn.out).mono ?_
          rintro e w' ⟨rfl, d7, rfl⟩
          rw [lay_bw]
          go_wp2_with fail
          refine (r50_way v l false _ (slG_on (A := [_, _]) HV.out) HLn.out).mono ?_
          rintro e w' ⟨rfl, d8, rfl⟩
          rw [lay_bw]
          generalize wyL l true = t0 at *
          generalize wyH l true = t1 at *
          generalize wyB l true = b1 at *
          generalize wyL l false = t2 at *
          generalize wyH l false = t3 at *
          generalize wyB l false = b2 at *
          clear HV HLn
          cases b1
          · have hR := Lib.hid (hR4.out (.inl rfl))
            clear hR4 hR5
            go_wp2_with fail
            exact bodyPost_ret (v := .tuple #[(.agg #[.int .i64 (0), .int .i64 (0)]), (.agg #[.int .i64 (0), .int .i64 (0)]), .int .i64 12]) (by simp [results, Tryz.results28, go_sem]) rfl ⟨by rw [hR.out]; rfl, lay_ex _ _⟩
          · cases b2
            · have hR := Lib.hid (hR4.out (.inr rfl))
              clear hR4 hR5
              go_wp2_with fail
              exact bodyPost_ret (v := .tuple #[(.agg #[.int .i64 (0), .int .i64 (0)]), (.agg #[.int .i64 (0), .int .i64 (0)]), .int .i64 12]) (by simp [results, Tryz.results28, go_sem]) rfl ⟨by rw [hR.out]; rfl, lay_ex _ _⟩
            · have hR := Lib.hid (hR5.out (by simp))
              clear hR4 hR5
              go_wp2_with fail
              go_region
              rw [bw_drewExt, lay_bw]
              go_wp2_with fail
              exact bodyPost_ret (v := .tuple #[(.agg #[.int .i64 (t0), .int .i64 (t1)]), (.agg #[.int .i64 (t2), .int .i64 (t3)]), .int .i64 0]) (by simp [results, Tryz.results28, go_sem]) rfl ⟨by rw [hR.out]; rfl, lay_ex _ _⟩
    · have hR := Lib.hid (rsF_whe (S := S) (E := E) (G := G) hd hw)
      have g1 : (we != 0) = true := by simpa using hw
      have g2 : (we == 0) = false := beq_eq_false_iff_ne.2 hw
      clear hd hw hS3 HS0 hsz i1 i2 f0 f1
      obtain ⟨r1, r2, r3, r4, r5, r6, r7, r8⟩ := G
      dsimp only at HW
      refine lay_start ?_
      go_enter Tryz.func28, Tryz.ntmps28
      go_wp2_with (first | (go_at_call 56; refine (HD.out _).mono ?_; rintro e w' ⟨rfl, d1, rfl⟩; rw [lay_bw]) | (go_at_call 30; refine (HW.out _).mono ?_; rintro e w' ⟨rfl, d6, rfl⟩; rw [lay_bw]))
      exact bodyPost_ret (v := .tuple #[(.agg #[.int .i64 (0), .int .i64 (0)]), (.agg #[.int .i64 (0), .int .i64 (0)]), .int .i64 we]) (by simp [results, Tryz.results28, go_sem]) rfl ⟨by rw [hR.out]; rfl, lay_ex _ _⟩
  · have hR := Lib.hid (rsF_day (S := S) (E := E) (G := G) (we := we) hd)
    have g1 : (dyE f != 0) = true := by simpa using hd
    have g2 : (dyE f == 0) = false := beq_eq_false_iff_ne.2 hd
    generalize dyE f = DE at *
    clear hS3 HS0 hsz HW hd
    refine lay_start ?_
    go_enter Tryz.func28, Tryz.ntmps28
    go_wp2_with (first | (go_at_call 56; refine (HD.out _).mono ?_; rintro e w' ⟨rfl, d1, rfl⟩; rw [lay_bw]))
    exact bodyPost_ret (v := .tuple #[(.agg #[.int .i64 (0), .int .i64 (0)]), (.agg #[.int .i64 (0), .int .i64 (0)]), .int .i64 DE]) (by simp [results, Tryz.results28, go_sem]) rfl ⟨by rw [hR.out]; rfl, lay_ex _ _⟩
end Go.Proofs.YthjfadfebhjhbaaGreat
