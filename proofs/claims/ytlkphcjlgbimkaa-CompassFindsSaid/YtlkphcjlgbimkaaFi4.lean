/- CompassFinds: the main way. -/
import Derived.Test.YtlkphcjlgbimkaaProg
import Derived.Test.YtlkphcjlgbimkaaLay
import Derived.Test.YtlkphcjlgbimkaaRegion
import Derived.Test.YtlkphcjlgbimkaaMix
import Derived.WalkKit
import Derived.WalkSpells
import Derived.WalkLawsBesides
import Derived.Lib.Hide
import Derived.BigQuiet
import Derived.Test.YtlkphcjlgbimkaaFi3
namespace Go.Proofs.Ytlkphcjlgbimkaa
open Go.RowKit

set_option maxHeartbeats 4000000 in
set_option maxRecDepth 100000 in
theorem law34_Finds_in (v : Value) (l : Tl) {w : World} (hv : Tabs w v l) (B V z0 z1 : Int) (T : Tab l) (hl : 0 < l.length) (b0 : 0 ≤ B) (b1 : B < 21600000) (v0 : -10800000 ≤ V) (v1 : V ≤ 10800000) (hz : validB z0 z1 = true) (hn : farB z0 z1 = true) :
    Calls Try.prog 4 #[v, .int .i64 B, .int .i64 V, (.agg #[.int .i64 (z0), .int .i64 (z1)])] w fun e w' => e = .returned (.bool true) ∧ ∃ d, w' = bw w d := by
  have HV := Lib.hid hv
  have hP := vB_iff.2 T
  have hT72 := T.len
  have HS := swg_tab T hl b0 b1 v0 v1
  have HSw := Lib.hid (fun W u0 u1 (q0 : Sl W u0 (hdR l l.length)) (q1 : Sl W u1 (bgR l (B - V) l.length)) => comp_Swing u0 u1 _ _ B V W q0 q1 (by rw [hdR_len]; omega))
  rw [HS.1, HS.2] at HSw
  obtain ⟨b, o, c, rfl, -, hb, hr⟩ := tabs_open hv hl
  have HVa := Lib.hid (fun W (q : Tabs W (.slice (some ⟨b, o, none⟩) l.length c) l) => comp_Valid _ l W q)
  rw [hP] at HVa
  have HZ := Lib.hid (fun W => ref05_Valid z0 z1 W)
  have HN := Lib.hid (fun W => ref34_NearF z0 z1 W)
  obtain ⟨zz, zl, zh⟩ := validB_iff.1 hz
  have hn' : -274877906944 ≤ z0 ∧ z1 ≤ 274877906944 := by simpa [farB] using hn
  obtain ⟨n0, n1⟩ := hn'
  rw [hz] at HZ
  rw [hn] at HN
  have HD := Lib.hid (fun i (hi : i < l.length) => And.intro (And.intro (T.h0 i hi) (T.h1 i hi)) (And.intro (T.d0 i hi) (T.d1 i hi)))
  have HR := Lib.hid hr
  have HH := Lib.hid (fun k => hdR_step l k)
  have HB := Lib.hid (fun k => bgR_step l (B - V) k)
  have HHl := Lib.hid (fun k => hdR_len l k)
  have HBl := Lib.hid (fun k => bgR_len l (B - V) k)
  clear HS T hv hr hP hz hn
  obtain ⟨n, hn⟩ : ∃ n, l.length = n := ⟨_, rfl⟩
  have HLn := Lib.hid hn
  rw [hn] at HV HVa HD HR HSw HH HB hl hT72 ⊢
  have t0 : ((n : Int) == 0) = false := beq_eq_false_iff_ne.2 (by omega)
  clear hn
  refine lay_start ?_
  go_enter Try.func4, Try.ntmps4
  go_wp2_with (first | (go_at_call 5; refine (law_awake _).mono ?_; rintro e w' ⟨rfl, dA, rfl⟩) | (go_at_call 9; refine (HVa.out _ (tabs_lay HV.out _)).mono ?_; rintro e w' ⟨rfl, dB, rfl⟩) | (go_at_call 10; refine (HZ.out _).mono ?_; rintro e w' ⟨rfl, dC, rfl⟩) | (go_at_call 11; refine (HN.out _).mono ?_; rintro e w' ⟨rfl, dD, rfl⟩))
  go_loopw [9, 10, 11] (fun v9 v10 v11 wr' => ∃ (k : Nat) (dd : Ext), k ≤ n ∧ v11 = .int .i64 ((n : Int) - 1 - (k : Int)) ∧ wr' = lay w [.inr dd, .inr dD, .inr dC, .inr dB, .inr dA, .inl (.cells #[.int .i64 z0, .int .i64 z1] 35 (0, 0))] ∧
      Ow (lay w [.inr dd, .inr dD, .inr dC, .inr dB, .inr dA, .inl (.cells #[.int .i64 z0, .int .i64 z1] 35 (0, 0))]) (lay w [.inr dD, .inr dC, .inr dB, .inr dA, .inl (.cells #[.int .i64 z0, .int .i64 z1] 35 (0, 0))]).heap.size v9 (hdR l k) ∧
      Ow (lay w [.inr dd, .inr dD, .inr dC, .inr dB, .inr dA, .inl (.cells #[.int .i64 z0, .int .i64 z1] 35 (0, 0))]) (lay w [.inr dD, .inr dC, .inr dB, .inr dA, .inl (.cells #[.int .i64 z0, .int .i64 z1] 35 (0, 0))]).heap.size v10 (bgR l (B - V) k) ∧ Apart v9 v10) (fun _ _ v11 _ => (intOf v11 + 1).toNat)
  case atStart => exact ⟨0, noExt _, Nat.zero_le _, by simp, (bw_noExt _).symm, Ow.nil _ _, Ow.nil _ _, fun k hk => by cases hk⟩
  case round =>
    obtain ⟨k, dd, hk, rfl, rfl, hw9, hw10, hap⟩ := hrel
    have HO9 := Lib.hid hw9
    have HO10 := Lib.hid hw10
    have HAp := Lib.hid hap
    clear hw9 hw10 hap
    by_cases hlt : k < n
    · obtain ⟨j, hj⟩ : ∃ j, n - 1 - k = j := ⟨_, rfl⟩
      have hjn : j < n := by omega
      have e1 : (n : Int) - 1 - (k : Int) = (j : Int) := by omega
      have e2 : ((n : Int) - 1 - ((k + 1 : Nat) : Int)) = (j : Int) - 1 := by omega
      obtain ⟨c0, c1⟩ := HR.out j hjn
      obtain ⟨⟨p0, p1⟩, p2, p3⟩ := HD.out j hjn
      have HH1 := Lib.hid (HH.out k)
      have HB1 := Lib.hid (HB.out k)
      rw [hj] at HH1 HB1
      have hl9 : (hdR l k).length ≤ 1000000000 := by rw [HHl.out]; omega
      have hl10 : (bgR l (B - V) k).length ≤ 1000000000 := by rw [HBl.out]; omega
      rw [e1]
      have HE2 := Lib.hid e2
      have x0 : (0 : Int) ≤ (j : Int) := by omega
      have x1 : (j : Int) < (n : Int) := by omega
      clear hj e1 e2
      generalize hdR l k = R9 at *
      generalize bgR l (B - V) k = R10 at *
      generalize hd l j = x at *
      generalize dv l j = y at *
      have w1 : IntKind.i64.wrap (B - V) = B - V := IntWalk.i64_in _ (by omega)
      have HWr := Lib.hid (fun W => ref05_Wrap (B - V - y) W)
      have hwb : 0 ≤ (B - V - y) % 21600000 ∧ (B - V - y) % 21600000 < 21600000 := by omega
      obtain ⟨q0, q1⟩ := hwb
      obtain ⟨s, hs⟩ : ∃ s, (B - V - y) % 21600000 = s := ⟨_, rfl⟩
      rw [hs] at HWr HB1 q0 q1
      have lx : (Lit.int .i64 x).wf = true := by simp [Lit.wf, IntKind.min, IntKind.max, IntKind.bits, IntKind.signed]; omega
      have ls : (Lit.int .i64 s).wf = true := by simp [Lit.wf, IntKind.min, IntKind.max, IntKind.bits, IntKind.signed]; omega
      clear hs w1
      go_wp2_with (first | (go_at_call 12; refine (HWr.out _).mono ?_; rintro e w' ⟨rfl, rfl⟩) | (at_builtin; refine push_int2 rfl (.tmp 62) (.tmp 68) rfl (lay w [.inr dD, .inr dC, .inr dB, .inr dA, .inl (.cells #[.int .i64 z0, .int .i64 z1] 35 (0, 0))]) _ x 3 _ _ _ _ _ ?_ (ow_on (A := [_]) HO9.out) (ow_on (A := [_]) HO10.out) HAp.out ?_ rfl rfl hl9 lx ?_; exact lay_below (A := [_, _]); exact lay_get w _ 0 _ rfl; intro v9' d9 h9 h10 hap9; replace h9 := Lib.hid h9; replace h10 := Lib.hid h10; replace hap9 := Lib.hid hap9.symm) | (at_builtin; refine push_int2 rfl (.tmp 70) (.tmp 81) rfl (lay w [.inr dD, .inr dC, .inr dB, .inr dA, .inl (.cells #[.int .i64 z0, .int .i64 z1] 35 (0, 0))]) _ s 3 _ _ _ _ _ ?_ (ow_on (A := [_]) (B := [.inr d9, .inr dD, .inr dC, .inr dB, .inr dA, .inl (.cells #[.int .i64 z0, .int .i64 z1] 35 (0, 0))]) h10.out) (ow_on (A := [_]) (B := [.inr d9, .inr dD, .inr dC, .inr dB, .inr dA, .inl (.cells #[.int .i64 z0, .int .i64 z1] 35 (0, 0))]) h9.out) hap9.out ?_ rfl rfl hl10 ls ?_; exact lay_below (A := [_, _]); exact lay_get w _ 0 _ rfl; intro v10' d10 g10 g9 hap10; replace g9 := Lib.hid g9; replace g10 := Lib.hid g10; replace hap10 := Lib.hid hap10.symm))
      go_roundw
      case rel => exact ⟨k + 1, d10, by omega, congrArg (Value.int .i64) HE2.out.symm, rfl, by rw [HH1.out]; exact g9.out, by rw [HB1.out]; exact g10.out, hap10.out⟩
      case measure => simp [intOf]
    · obtain rfl : k = n := by omega
      have x1 : ¬ (0 : Int) ≤ (k : Int) - 1 - (k : Int) := by omega
      obtain ⟨a9, c9, hf9⟩ := HO9.out.form
      obtain ⟨a10, c10, hf10⟩ := HO10.out.form
      rw [HHl.out] at hf9
      rw [HBl.out] at hf10
      subst hf9 hf10
      obtain ⟨c0, c1⟩ := HR.out 0 hl
      obtain ⟨⟨p0, p1⟩, p2, p3⟩ := HD.out 0 hl
      rw [Nat.zero_mul, Nat.add_zero] at c0 c1
      obtain ⟨d0, hd0⟩ : ∃ d0, dv l 0 = d0 := ⟨_, rfl⟩
      rw [hd0] at c1 p2 p3
      clear hd0 HAp
      obtain ⟨D, hD⟩ : ∃ D, d0 + V = D := ⟨_, rfl⟩
      have wD : IntKind.i64.wrap (d0 + V) = D := by rw [IntWalk.i64_in _ (by omega)]; exact hD
      have D0 : -12600000 ≤ D := by omega
      have D1 : D ≤ 12600000 := by omega
      clear hD
      have wz0 : IntKind.i64.wrap (z0 - D) = z0 - D := IntWalk.i64_in _ (by omega)
      have wz1 : IntKind.i64.wrap (z1 - D) = z1 - D := IntWalk.i64_in _ (by omega)
      have vo : validB (z0 - D) (z1 - D) = true := validB_iff.2 ⟨by omega, by omega, by omega⟩
      have vz : validB z0 z1 = true := validB_iff.2 ⟨zz, zl, zh⟩
      have nz : nearB z0 z1 = true := nearB_iff.2 ⟨⟨by omega, by omega⟩, by omega, by omega⟩
      go_wp2_with fail
      refine (HSw.out _ _ _ HO9.out.sl HO10.out.sl).mono ?_
      rintro e w' ⟨v5, d5, rfl, rfl, s5⟩
      rw [lay_bw] at s5 ⊢
      have S5 := Lib.hid (tabs_slG s5)
      clear s5
      go_wp2_with fail
      refine (sl_EqualTb _ _ l l _ S5.out (tabs_lay HV.out _)).mono ?_
      rintro e w' ⟨rfl, d6, rfl⟩
      rw [lay_bw, decide_eq_true rfl]
      by_cases hno : nearB (z0 - D) (z1 - D) = true
      · have HEb := Lib.hid (fun W => comp_ErrorBy_ok (z0 - D) (z1 - D) z0 z1 W vo vz hno nz)
        obtain ⟨q0, q1, q2, q3⟩ := eb_bd (d := D) zz
        have hag := agr_self (d := D) zz
        generalize ebL (z0 - D) (z1 - D) z0 z1 = X0 at *
        generalize ebH (z0 - D) (z1 - D) z0 z1 = X1 at *
        have HAg := Lib.hid (fun W => angle_Agree X0 X1 D D W (validB_iff.2 ⟨q0, by omega, by omega⟩) (validB_iff.2 ⟨Int.le_refl _, by omega, by omega⟩))
        rw [hag] at HAg
        clear vo vz hno nz hag
        go_wp2_with (first | (go_at_call 13; refine (HEb.out _).mono ?_; rintro e w' ⟨rfl, d, rfl⟩))
        refine region_bw (by kernel_rfl) (by kernel_rfl) ?_
        repeat (go_big_quiet_step ((first | (go_at_call 15; exact bq (law_at _ _) (fun d => lay_join _ _ _ d)) | (go_at_call 14; exact bq (HAg.out _) (fun d => lay_join _ _ _ d)))))
        refine wpQuiet_nil ?_
        rintro w' ⟨d, rfl⟩
        rw [lay_bw]
        go_wp2
        go_ret
        exact ⟨rfl, lay_ex _ _⟩
      · have HEb := Lib.hid (fun W => comp_ErrorBy_far (z0 - D) (z1 - D) z0 z1 W vo vz (by rw [Bool.and_eq_false_iff]; left; simpa using hno))
        clear vo vz hno nz
        go_wp2_with (first | (go_at_call 13; refine (HEb.out _).mono ?_; rintro e w' ⟨rfl, d, rfl⟩))
        go_ret
        exact ⟨rfl, lay_ex _ _⟩
end Go.Proofs.Ytlkphcjlgbimkaa
