/- Contracts and plain laws, several texts in one: HxB -/
import Derived.Test.YthjfadfebhjhbaaGreatProg
import Derived.WalkKit
import Derived.WalkSpells
import Derived.WalkLawsBesides
import Derived.Lib.Hide
import Derived.BigQuiet
import Derived.Test.YthjfadfebhjhbaaGreatQAA
import Derived.Test.YthjfadfebhjhbaaGreatQAB
import Derived.Test.YthjfadfebhjhbaaGreatQBM
import Derived.Test.YthjfadfebhjhbaaGreatQBU
/- RiseSet: the plain answer; the program's. -/
namespace Go.Proofs.YthjfadfebhjhbaaGreat
open Go.RowKit Go.Shelf

theorem whR_sz {lp : List PgV} {ls : List StarV} {s : ByteArray} {f : Int} (hok : ∀ p ∈ lp, PgOk p) : (0 ≤ (whR lp ls s f f).1.e ∧ (whR lp ls s f f).1.e ≤ 100000) ∧ (0 ≤ (whR lp ls s f f).1.f ∧ (whR lp ls s f f).1.f ≤ 100000) ∧ (0 ≤ (whR lp ls s f f).1.g ∧ (whR lp ls s f f).1.g ≤ 100000) ∧ (0 ≤ (whR lp ls s f f).1.h ∧ (whR lp ls s f f).1.h ≤ 100000) := by
  cases whW lp ls s f f with
  | bad k => rw [whR_bad k]; decide
  | name t k => rw [whR_name t k]; decide
  | wide t k d => rw [whR_wide t k d]; decide
  | aries t d k => rw [whR_aries t d k]; exact ⟨⟨Int.le_refl _, (by decide : (0 : Int) ≤ 100000)⟩, ⟨Int.le_refl _, (by decide : (0 : Int) ≤ 100000)⟩, ⟨Int.le_refl _, (by decide : (0 : Int) ≤ 100000)⟩, ⟨Int.le_refl _, (by decide : (0 : Int) ≤ 100000)⟩⟩
  | star i x t d k f g e => rw [whR_star t d k f e]; exact ⟨⟨Int.le_refl _, (by decide : (0 : Int) ≤ 100000)⟩, ⟨Int.le_refl _, (by decide : (0 : Int) ≤ 100000)⟩, ⟨Int.le_refl _, (by decide : (0 : Int) ≤ 100000)⟩, ⟨Int.le_refl _, (by decide : (0 : Int) ≤ 100000)⟩⟩
  | body t d k _ g c =>
    rw [whR_body t d k g c]
    cases h3 : trkAt lp s (f / 86400000) with
    | none => rw [bodyR_no h3]; decide
    | some u =>
      rw [bodyR_one h3 rfl]
      have hu := trkAt_ok hok h3
      have hb : (0 ≤ u.p ∧ u.p ≤ 200) ∧ (0 ≤ u.q ∧ u.q ≤ 620) := by
        unfold trkB at hu
        simp only [Bool.and_eq_true] at hu
        have h1 := inLB_iff.1 hu.1.1.2 0 (by simp)
        have h2 := inLB_iff.1 hu.1.2 0 (by simp)
        exact ⟨h1, h2⟩
      show (0 ≤ szL u.p ∧ szL u.p ≤ 100000) ∧ (0 ≤ szH u.p ∧ szH u.p ≤ 100000) ∧ (0 ≤ szL u.q ∧ szL u.q ≤ 100000) ∧ (0 ≤ szH u.q ∧ szH u.q ≤ 100000)
      unfold szL szH
      rw [mx_eq, mx_eq, mx_eq, mx_eq]
      omega
def rsN (G : GeoV) : Int := (G.g + G.h) / 2 - (G.e + G.f) / 2 - 34000
structure RsV where
  a : Int
  b : Int
  c : Int
  d : Int
  e : Int
def rsF (G : GeoV) (we : Int) (S : Int → Int → Int) (E : Int → Int) (f : Int) : RsV :=
  if dyE f ≠ 0 then ⟨0, 0, 0, 0, dyE f⟩ else if we ≠ 0 then ⟨0, 0, 0, 0, we⟩ else if rsN G < -5400000 ∨ 5400000 < rsN G then ⟨0, 0, 0, 0, 2⟩
  else if erF E (smp f (f + 86400000)) ≠ 0 then ⟨0, 0, 0, 0, erF E (smp f (f + 86400000))⟩
  else if wyB (crF (S (rsN G)) (smp f (f + 86400000)) 0 0) true = false ∨ wyB (crF (S (rsN G)) (smp f (f + 86400000)) 0 0) false = false then ⟨0, 0, 0, 0, 12⟩
  else ⟨wyL (crF (S (rsN G)) (smp f (f + 86400000)) 0 0) true, wyH (crF (S (rsN G)) (smp f (f + 86400000)) 0 0) true, wyL (crF (S (rsN G)) (smp f (f + 86400000)) 0 0) false, wyH (crF (S (rsN G)) (smp f (f + 86400000)) 0 0) false, 0⟩
variable {G : GeoV} {we f : Int} {S : Int → Int → Int} {E : Int → Int}
theorem rsF_day (h : dyE f ≠ 0) : rsF G we S E f = ⟨0, 0, 0, 0, dyE f⟩ := if_pos h
theorem rsF_whe (h : dyE f = 0) (h2 : we ≠ 0) : rsF G we S E f = ⟨0, 0, 0, 0, we⟩ := (if_neg (fun g => g h)).trans (if_pos h2)
theorem rsF_alt (h : dyE f = 0) (h2 : we = 0) (h3 : rsN G < -5400000 ∨ 5400000 < rsN G) : rsF G we S E f = ⟨0, 0, 0, 0, 2⟩ := (if_neg (fun g => g h)).trans ((if_neg (fun g => g h2)).trans (if_pos h3))
theorem rsF_err (h : dyE f = 0) (h2 : we = 0) (h3 : ¬ (rsN G < -5400000 ∨ 5400000 < rsN G)) (h4 : erF E (smp f (f + 86400000)) ≠ 0) : rsF G we S E f = ⟨0, 0, 0, 0, erF E (smp f (f + 86400000))⟩ := (if_neg (fun g => g h)).trans ((if_neg (fun g => g h2)).trans ((if_neg h3).trans (if_pos h4)))
theorem rsF_non {l : List CrV} (h : dyE f = 0) (h2 : we = 0) (h3 : ¬ (rsN G < -5400000 ∨ 5400000 < rsN G)) (h4 : erF E (smp f (f + 86400000)) = 0) (hl : crF (S (rsN G)) (smp f (f + 86400000)) 0 0 = l) (h5 : wyB l true = false ∨ wyB l false = false) : rsF G we S E f = ⟨0, 0, 0, 0, 12⟩ := by
  subst hl
  exact (if_neg (fun g => g h)).trans ((if_neg (fun g => g h2)).trans ((if_neg h3).trans ((if_neg (fun g => g h4)).trans (if_pos h5))))
theorem rsF_two {l : List CrV} (h : dyE f = 0) (h2 : we = 0) (h3 : ¬ (rsN G < -5400000 ∨ 5400000 < rsN G)) (h4 : erF E (smp f (f + 86400000)) = 0) (hl : crF (S (rsN G)) (smp f (f + 86400000)) 0 0 = l) (h5 : ¬ (wyB l true = false ∨ wyB l false = false)) : rsF G we S E f = ⟨wyL l true, wyH l true, wyL l false, wyH l false, 0⟩ := by
  subst hl
  exact (if_neg (fun g => g h)).trans ((if_neg (fun g => g h2)).trans ((if_neg h3).trans ((if_neg (fun g => g h4)).trans (if_neg h5))))
def rsV (R : RsV) : Value := .tuple #[(.agg #[.int .i64 (R.a), .int .i64 (R.b)]), (.agg #[.int .i64 (R.c), .int .i64 (R.d)]), .int .i64 R.e]
set_option maxHeartbeats 8000000 in
set_option maxRecDepth 100000 in
theorem hz_RiseSet (G : GeoV) (we : Int) (S : Int → Int → Int) (E : Int → Int) (bk : Nat) (s : ByteArray) (u x f : Int) (w : World) (HW : Hid (∀ L, Calls Tryz.prog 54 #[.pointer (some ⟨bk, 0, none⟩), .string s, (.agg #[.int .i64 (f), .int .i64 (f)])] (lay w L) fun e w' => e = .returned (.tuple #[gv G, .int .i64 we]) ∧ ∃ d, w' = bw (lay w L) d)) (HS0 : ∀ n, WSide (S n) E bk s u x n w) (hp : ptB u x = true) (hsz : (0 ≤ G.e ∧ G.e ≤ 100000) ∧ (0 ≤ G.f ∧ G.f ≤ 100000) ∧ (0 ≤ G.g ∧ G.g ≤ 100000) ∧ (0 ≤ G.h ∧ G.h ≤ 100000)) (hS3 : ∀ n m, S n m = -1 ∨ S n m = 0 ∨ S n m = 1) (hE : erF E (smp f (f + 86400000)) = 0 → ∀ m, f ≤ m → m ≤ f + 86400000 → E m = 0) :
    Calls Tryz.prog 24 #[.pointer (some ⟨bk, 0, none⟩), .string s, (.agg #[.int .i64 (u), .int .i64 (x)]), .int .i64 f] w fun e w' => e = .returned (rsV (rsF G we S E f)) ∧ ∃ d, w' = bw w d := by
  rw [gv_eta] at HW
  have HH := Lib.hid (fun W => hz_here bk u x W)
  rw [hp, if_pos rfl] at HH
  have HI1 := Lib.hid (fun W => hz_instant f W)
  have HI2 := Lib.hid (fun W => hz_instant (f + 86400000) W)
  by_cases hd : dyE f = 0
  · obtain ⟨i1, i2, f0, f1⟩ := dyE_0 hd
    rw [i1] at HI1
    rw [i2] at HI2
    have k1 : IntKind.i64.wrap (f + 86400000) = f + 86400000 := IntWalk.i64_in _ (by omega)
    by_cases hw : we = 0
    · have hcases : ∃ a2 b2 n, IntKind.i64.wrap (G.g + G.h) = G.g + G.h ∧ IntKind.i64.wrap (G.e + G.f) = G.e + G.f ∧ (G.g + G.h) / 2 = a2 ∧ (G.e + G.f) / 2 = b2 ∧ IntKind.i64.wrap a2 = a2 ∧ IntKind.i64.wrap b2 = b2 ∧ IntKind.i64.wrap (a2 - b2) = a2 - b2 ∧ IntKind.i64.wrap (a2 - b2 - 34000) = n ∧ a2 - b2 - 34000 = n ∧ rsN G = n := by
        refine ⟨(G.g + G.h) / 2, (G.e + G.f) / 2, rsN G, ?_, ?_, rfl, rfl, ?_, ?_, ?_, ?_, rfl, rfl⟩
        all_goals (try unfold rsN)
        all_goals exact IntWalk.i64_in _ (by omega)
      obtain ⟨a2, b2, n, kA, kB, hA, hB, kA2, kB2, kD, kN, hN, hn⟩ := hcases
      have HA := Lib.hid (fun W => hz_altitudes n W)
      by_cases ha : n < -5400000 ∨ 5400000 < n
      · have hR := Lib.hid (rsF_alt (S := S) (E := E) (G := G) hd hw (by rw [hn]; exact ha))
        rw [decide_eq_false (by omega)] at HA
        subst hw
        clear hd hn ha hE hS3 HS0 hsz i1 i2 f0 f1 hN
        obtain ⟨r1, r2, r3, r4, r5, r6, r7, r8⟩ := G
        dsimp only at HW kA kB hA hB
        refine lay_start ?_
        go_enter Tryz.func24, Tryz.ntmps24
        go_wp2_with (first | (go_at_call 36; refine (HH.out _).mono ?_; rintro e w' ⟨rfl, d1, rfl⟩; rw [lay_bw]) | (go_at_call 49; refine (HA.out _).mono ?_; rintro e w' ⟨rfl, d2, rfl⟩; rw [lay_bw]) | (go_at_call 54; refine (HW.out _).mono ?_; rintro e w' ⟨rfl, d6, rfl⟩; rw [lay_bw]) | (go_at_call 37; first | ((with_reducible refine (HI1.out _).mono ?_); rintro e w' ⟨rfl, d3, rfl⟩; rw [lay_bw]) | ((with_reducible refine (HI2.out _).mono ?_); rintro e w' ⟨rfl, d4, rfl⟩; rw [lay_bw])))
        go_region
        rw [bw_drewExt, lay_bw]
        go_wp2_with fail
        exact bodyPost_ret (v := .tuple #[(.agg #[.int .i64 (0), .int .i64 (0)]), (.agg #[.int .i64 (0), .int .i64 (0)]), .int .i64 2]) (by simp [results, Tryz.results24, go_sem]) rfl ⟨by rw [hR.out]; rfl, lay_ex _ _⟩
      · obtain ⟨T, hT⟩ : ∃ T, f + 86400000 = T := ⟨_, rfl⟩
        rw [hT] at HI2 k1 hE i2 f1
        have HC := Lib.hid (fun L => hz_crossings (S n) E bk s u x n f T (lay w L) ((HS0 n).on L) (by omega) (by omega) f0 (by omega) (hS3 n) hE)
        rw [decide_eq_true (by omega)] at HA
        have hR1 := Lib.hid (fun h4 => rsF_err (S := S) (E := E) (G := G) hd hw (by rw [hn]; exact ha) h4)
        have hR2 := Lib.hid (fun h4 h5 => rsF_non (S := S) (E := E) (G := G) hd hw (by rw [hn]; exact ha) h4 (l := crF (S n) (smp f T) 0 0) (by rw [hn, hT]) h5)
        have hR3 := Lib.hid (fun h4 h5 => rsF_two (S := S) (E := E) (G := G) hd hw (by rw [hn]; exact ha) h4 (l := crF (S n) (smp f T) 0 0) (by rw [hn, hT]) h5)
        rw [hT] at hR1 hR2 hR3
        have hlen : (crF (S n) (smp f T) 0 0).length ≤ 145 := by
          have h1 := crF_len (S n) (smp f T) 0 0
          have h2 := smp_len (f := f) (t := T) 144 (by omega)
          omega
        subst hw
        clear hd hn ha hE hS3 HS0 hsz i1 i2 f0 f1 hN
        generalize hrs : rsF G 0 S E f = RR at *
        clear hrs
        obtain ⟨r1, r2, r3, r4, r5, r6, r7, r8⟩ := G
        dsimp only at HW kA kB hA hB
        refine lay_start ?_
        go_enter Tryz.func24, Tryz.ntmps24
        go_wp2_with (first | (go_at_call 36; refine (HH.out _).mono ?_; rintro e w' ⟨rfl, d1, rfl⟩; rw [lay_bw]) | (go_at_call 49; refine (HA.out _).mono ?_; rintro e w' ⟨rfl, d2, rfl⟩; rw [lay_bw]) | (go_at_call 54; refine (HW.out _).mono ?_; rintro e w' ⟨rfl, d6, rfl⟩; rw [lay_bw]) | (go_at_call 37; first | ((with_reducible refine (HI1.out _).mono ?_); rintro e w' ⟨rfl, d3, rfl⟩; rw [lay_bw]) | ((with_reducible refine (HI2.out _).mono ?_); rintro e w' ⟨rfl, d4, rfl⟩; rw [lay_bw])))
        refine (HC.out _).mono ?_
        rintro e w' ⟨⟨d5, rfl⟩, hcase⟩
        rw [lay_bw] at hcase ⊢
        rcases hcase with ⟨her, rfl⟩ | ⟨her, v, rfl, hv⟩
        · have hR := Lib.hid (hR1.out her)
          obtain ⟨EX, hEX⟩ : ∃ EX, erF E (smp f T) = EX := ⟨_, rfl⟩
          rw [hEX] at her hR ⊢
          have g1 : (EX != 0) = true := by simpa using her
          have g2 : (EX == 0) = false := beq_eq_false_iff_ne.2 her
          clear hR1 hR2 hR3 hEX HC HH HI1 HI2 HA HW
          go_wp2_with fail
          go_region
          rw [bw_drewExt, lay_bw]
          go_wp2_with fail
          exact bodyPost_ret (v := .tuple #[(.agg #[.int .i64 (0), .int .i64 (0)]), (.agg #[.int .i64 (0), .int .i64 (0)]), .int .i64 EX]) (by simp [results, Tryz.results24, go_sem]) rfl ⟨by rw [hR.out]; rfl, lay_ex _ _⟩
        · have hR4 := Lib.hid (fun h5 => hR2.out her h5)
          have hR5 := Lib.hid (fun h5 => hR3.out her h5)
          clear hR1 hR2 hR3 her HC HH HI1 HI2 HA HW
          generalize crF (S n) (smp f T) 0 0 = l at *
          have HV := Lib.hid hv
          have HLn := Lib.hid hlen
          clear hv hlen
          go_wp2_with fail
          refine (hz_first v l true _ HV.out HLn.out).mono ?_
          rintro e w' ⟨rfl, d7, rfl⟩
          rw [lay_bw]
          go_wp2_with fail
          refine (hz_first v l false _ (slG_on (A := [_, _]) HV.out) HLn.out).mono ?_
          rintro e w' ⟨rfl, d8, rfl⟩
          rw [lay_bw]
          generalize wyL l true = t0 at *
          generalize wyH l true = t1 at *
          generalize wyB l true = b1 at *
          generalize wyL l false = t2 at *
          generalize wyH l false = t3 at *
          generalize wyB l false = b2 at *
          clear HV HLn
          cases b1
          · have hR := Lib.hid (hR4.out (.inl rfl))
            clear hR4 hR5
            go_wp2_with fail
            go_region
            rw [bw_drewExt, lay_bw]
            go_wp2_with fail
            exact bodyPost_ret (v := .tuple #[(.agg #[.int .i64 (0), .int .i64 (0)]), (.agg #[.int .i64 (0), .int .i64 (0)]), .int .i64 12]) (by simp [results, Tryz.results24, go_sem]) rfl ⟨by rw [hR.out]; rfl, lay_ex _ _⟩
          · cases b2
            · have hR := Lib.hid (hR4.out (.inr rfl))
              clear hR4 hR5
              go_wp2_with fail
              go_region
              rw [bw_drewExt, lay_bw]
              go_wp2_with fail
              exact bodyPost_ret (v := .tuple #[(.agg #[.int .i64 (0), .int .i64 (0)]), (.agg #[.int .i64 (0), .int .i64 (0)]), .int .i64 12]) (by simp [results, Tryz.results24, go_sem]) rfl ⟨by rw [hR.out]; rfl, lay_ex _ _⟩
            · have hR := Lib.hid (hR5.out (by simp))
              clear hR4 hR5
              go_wp2_with fail
              go_region
              rw [bw_drewExt, lay_bw]
              go_wp2_with fail
              exact bodyPost_ret (v := .tuple #[(.agg #[.int .i64 (t0), .int .i64 (t1)]), (.agg #[.int .i64 (t2), .int .i64 (t3)]), .int .i64 0]) (by simp [results, Tryz.results24, go_sem]) rfl ⟨by rw [hR.out]; rfl, lay_ex _ _⟩
    · have hR := Lib.hid (rsF_whe (S := S) (E := E) (G := G) hd hw)
      have g1 : (we != 0) = true := by simpa using hw
      have g2 : (we == 0) = false := beq_eq_false_iff_ne.2 hw
      clear hd hw hE hS3 HS0 hsz i1 i2 f0 f1
      obtain ⟨r1, r2, r3, r4, r5, r6, r7, r8⟩ := G
      dsimp only at HW
      refine lay_start ?_
      go_enter Tryz.func24, Tryz.ntmps24
      go_wp2_with (first | (go_at_call 36; refine (HH.out _).mono ?_; rintro e w' ⟨rfl, d1, rfl⟩; rw [lay_bw]) | (go_at_call 54; refine (HW.out _).mono ?_; rintro e w' ⟨rfl, d6, rfl⟩; rw [lay_bw]) | (go_at_call 37; first | ((with_reducible refine (HI1.out _).mono ?_); rintro e w' ⟨rfl, d3, rfl⟩; rw [lay_bw]) | ((with_reducible refine (HI2.out _).mono ?_); rintro e w' ⟨rfl, d4, rfl⟩; rw [lay_bw])))
      go_region
      rw [bw_drewExt, lay_bw]
      go_wp2_with fail
      exact bodyPost_ret (v := .tuple #[(.agg #[.int .i64 (0), .int .i64 (0)]), (.agg #[.int .i64 (0), .int .i64 (0)]), .int .i64 we]) (by simp [results, Tryz.results24, go_sem]) rfl ⟨by rw [hR.out]; rfl, lay_ex _ _⟩
  · have hR := Lib.hid (rsF_day (S := S) (E := E) (G := G) (we := we) hd)
    have hdv : dyE f = 2 := by unfold dyE at hd ⊢; split at hd <;> simp_all
    rw [hdv] at hR
    clear hE hS3 HS0 hsz HW
    cases c1 : insB f
    · rw [c1] at HI1
      clear hd hdv c1 HI2
      refine lay_start ?_
      go_enter Tryz.func24, Tryz.ntmps24
      go_wp2_with (first | (go_at_call 36; refine (HH.out _).mono ?_; rintro e w' ⟨rfl, d1, rfl⟩; rw [lay_bw]) | (go_at_call 37; (with_reducible refine (HI1.out _).mono ?_); rintro e w' ⟨rfl, d3, rfl⟩; rw [lay_bw]))
      go_region
      rw [bw_drewExt, lay_bw]
      go_wp2_with fail
      exact bodyPost_ret (v := .tuple #[(.agg #[.int .i64 (0), .int .i64 (0)]), (.agg #[.int .i64 (0), .int .i64 (0)]), .int .i64 2]) (by simp [results, Tryz.results24, go_sem]) rfl ⟨by rw [hR.out]; rfl, lay_ex _ _⟩
    · have e3 := of_decide_eq_true c1
      have k1 : IntKind.i64.wrap (f + 86400000) = f + 86400000 := IntWalk.i64_in _ (by omega)
      have c2 : insB (f + 86400000) = false := by
        cases c : insB (f + 86400000)
        · rfl
        · exact absurd (if_pos ⟨c1, c⟩) hd
      rw [c1] at HI1
      rw [c2] at HI2
      clear hd hdv c1 c2 e3
      refine lay_start ?_
      go_enter Tryz.func24, Tryz.ntmps24
      go_wp2_with (first | (go_at_call 36; refine (HH.out _).mono ?_; rintro e w' ⟨rfl, d1, rfl⟩; rw [lay_bw]) | (go_at_call 37; first | ((with_reducible refine (HI1.out _).mono ?_); rintro e w' ⟨rfl, d3, rfl⟩; rw [lay_bw]) | ((with_reducible refine (HI2.out _).mono ?_); rintro e w' ⟨rfl, d4, rfl⟩; rw [lay_bw])))
      go_region
      rw [bw_drewExt, lay_bw]
      go_wp2_with fail
      exact bodyPost_ret (v := .tuple #[(.agg #[.int .i64 (0), .int .i64 (0)]), (.agg #[.int .i64 (0), .int .i64 (0)]), .int .i64 2]) (by simp [results, Tryz.results24, go_sem]) rfl ⟨by rw [hR.out]; rfl, lay_ex _ _⟩
set_option maxHeartbeats 2000000 in
set_option maxRecDepth 100000 in
theorem hz_RiseSet_nil (s : ByteArray) (u x f : Int) (w : World) :
    Calls Tryz.prog 24 #[.pointer none, .string s, (.agg #[.int .i64 (u), .int .i64 (x)]), .int .i64 f] w fun e w' => e = .returned (.tuple #[(.agg #[.int .i64 (0), .int .i64 (0)]), (.agg #[.int .i64 (0), .int .i64 (0)]), .int .i64 1]) ∧ ∃ d, w' = bw w d := by
  refine lay_start ?_
  go_enter Tryz.func24, Tryz.ntmps24
  go_wp2_with (go_at_call 36; refine (hz_here_nil _ _ _).mono ?_; rintro e w' ⟨rfl, d1, rfl⟩; rw [lay_bw])
  go_region
  rw [bw_drewExt, lay_bw]
  go_wp2_with fail
  exact bodyPost_ret (v := .tuple #[(.agg #[.int .i64 (0), .int .i64 (0)]), (.agg #[.int .i64 (0), .int .i64 (0)]), .int .i64 1]) (by simp [results, Tryz.results24, go_sem]) rfl ⟨rfl, lay_ex _ _⟩
set_option maxHeartbeats 2000000 in
set_option maxRecDepth 100000 in
theorem hz_RiseSet_pt (bk : Nat) (s : ByteArray) (u x f : Int) (w : World) (hp : ptB u x = false) :
    Calls Tryz.prog 24 #[.pointer (some ⟨bk, 0, none⟩), .string s, (.agg #[.int .i64 (u), .int .i64 (x)]), .int .i64 f] w fun e w' => e = .returned (.tuple #[(.agg #[.int .i64 (0), .int .i64 (0)]), (.agg #[.int .i64 (0), .int .i64 (0)]), .int .i64 1]) ∧ ∃ d, w' = bw w d := by
  have HH := Lib.hid (fun W => hz_here bk u x W)
  rw [hp, if_neg (by decide)] at HH
  clear hp
  refine lay_start ?_
  go_enter Tryz.func24, Tryz.ntmps24
  go_wp2_with (go_at_call 36; refine (HH.out _).mono ?_; rintro e w' ⟨rfl, d1, rfl⟩; rw [lay_bw])
  go_region
  rw [bw_drewExt, lay_bw]
  go_wp2_with fail
  exact bodyPost_ret (v := .tuple #[(.agg #[.int .i64 (0), .int .i64 (0)]), (.agg #[.int .i64 (0), .int .i64 (0)]), .int .i64 1]) (by simp [results, Tryz.results24, go_sem]) rfl ⟨rfl, lay_ex _ _⟩
end Go.Proofs.YthjfadfebhjhbaaGreat
