/- The reference's At. -/
import Derived.Test.YtjfkaogjlfgelaaProg
import Derived.Test.YtjfkaogjlfgelaaLay
import Derived.Test.YtjfkaogjlfgelaaRegion
import Derived.Test.YtjfkaogjlfgelaaMix
import Derived.WalkKit
import Derived.WalkSpells
import Derived.WalkLawsBesides
import Derived.Lib.Hide
import Derived.BigQuiet
import Derived.BigRegion
import Derived.Test.YtjfkaogjlfgelaaPlain
import Derived.Test.YtjfkaogjlfgelaaAngle
import Derived.Test.YtjfkaogjlfgelaaCompPlain
import Derived.Test.YtjfkaogjlfgelaaCompPlain2
import Derived.Test.YtjfkaogjlfgelaaTabs
import Derived.Test.YtjfkaogjlfgelaaComp1
import Derived.Test.YtjfkaogjlfgelaaComp3
import Derived.Test.YtjfkaogjlfgelaaComp4
import Derived.Test.YtjfkaogjlfgelaaComp5
namespace Go.Proofs.Ytjfkaogjlfgelaa
open Go.RowKit

theorem gap_zero {l : Tl} (T : Tab l) {x : Nat} (hx : x < l.length) (h : gapK l x = 0) : dv l (nx l x) = dv l x := by
  unfold gapK at h
  have hn : nx l x < l.length := Nat.mod_lt _ (by omega)
  have a0 := T.h0 x hx; have a1 := T.h1 x hx
  have b0 := T.h0 _ hn; have b1 := T.h1 _ hn
  have e : hd l (nx l x) = hd l x := by omega
  have : nx l x = x := by
    rcases Nat.lt_trichotomy (nx l x) x with c | c | c
    · have := T.lt hx _ c; omega
    · exact c
    · have := T.lt hn _ c; omega
  rw [this]
theorem lastLe_step {l : Tl} {h : Int} {k : Nat} (c : hd l k ≤ h) : lastLe l h (k + 1) = k := by show (if _ then _ else _) = _; rw [if_pos c]
theorem lastLe_stay {l : Tl} {h : Int} {k : Nat} (c : ¬ hd l k ≤ h) : lastLe l h (k + 1) = lastLe l h k := by show (if _ then _ else _) = _; rw [if_neg c]
set_option maxHeartbeats 8000000 in
set_option maxRecDepth 100000 in
theorem ref34_At (v : Value) (l : Tl) (n : Int) (w : World) (hv : Tabs w v l) (T : Tab l) :
    Calls Try.prog 60 #[v, .int .i64 n] w fun e w' => e = .returned (.agg #[.int .i64 (atLo l n), .int .i64 (atHi l n)]) ∧ ∃ d, w' = bw w d := by
  obtain ⟨a, cap, rfl, g1, k1⟩ := hv
  by_cases hz : l = []
  · subst hz
    have e := at_nil n
    rw [e.1, e.2]
    clear k1 T e
    refine lay_start ?_
    go_enter Try.func60, Try.ntmps60
    go_wp2
    exact bodyPost_ret (v := (.agg #[.int .i64 (0), .int .i64 (0)])) (by simp [results, Try.results60, go_sem]) rfl ⟨rfl, lay_ex _ _⟩
  · obtain ⟨b, o, rfl, s1, r1⟩ := k1 hz
    have hm0 : 0 < l.length := List.length_pos_iff.2 hz
    obtain ⟨H, hH⟩ : ∃ H, H = n % 21600000 := ⟨_, rfl⟩
    have hb : 0 ≤ H ∧ H < 21600000 := by omega
    obtain ⟨hb1, hb2⟩ := hb
    have WR := fun W => ref05_Wrap n W
    rw [← hH] at WR
    have AL : atLo l n = aLo l H := by unfold atLo; rw [hH]
    have AH : atHi l n = aHi l H := by unfold atHi; rw [hH]
    have WD := at_wide T n
    have LE := at_le T n
    obtain ⟨m, hm⟩ : ∃ m, m = l.length := ⟨_, rfl⟩
    have h72 : l.length ≤ 72 := T.len
    obtain ⟨X, hX⟩ : ∃ X, X = kx l H := ⟨_, rfl⟩
    obtain ⟨N, hN⟩ : ∃ N, N = nx l X := ⟨_, rfl⟩
    have hXm : X < l.length := by rw [hX]; exact kx_lt H hm0
    have hNm : N < l.length := by rw [hN]; exact Nat.mod_lt _ hm0
    have G0 := gap_zero T hXm
    have bx := (T.e1 X hXm).bd
    have bn := (T.e1 N hNm).bd
    unfold aLo at AL
    unfold aHi at AH
    rw [← hX, ← hN] at AL AH
    rw [← hN] at G0
    obtain ⟨G, hG⟩ : ∃ G, G = gapK l X := ⟨_, rfl⟩
    rw [← hG] at AL AH G0
    have hG' : G = (hd l N - hd l X) % 21600000 := by rw [hG, hN]; rfl
    have ht : ((X : Int) + 1).tmod l.length = (N : Int) := by
      rw [Int.tmod_eq_emod_of_nonneg (by omega), hN]
      unfold nx
      rw [Int.natCast_emod]
      rfl
    have HM := Lib.hid hm
    have HL : Hid (∀ k, k = l.length → lastLe l H k = X) := Lib.hid (by rintro k rfl; rw [hX]; rfl)
    have HL0 : Hid (lastLe l H 0 = l.length - 1) := Lib.hid rfl
    have HLL := Lib.hid (lastLe_lt l H hm0)
    rw [← hm] at h72 hm0 hXm hNm r1 g1 ht HL HL0 HLL
    rw [← hm]
    have HR := Lib.hid r1
    have HAL := Lib.hid AL
    have HAH := Lib.hid AH
    have HG := Lib.hid hG'
    have HG0 := Lib.hid G0
    have HW := Lib.hid WR
    have HT := Lib.hid ht
    obtain ⟨bx1, bx2, bx3, bx4⟩ := bx
    obtain ⟨bn1, bn2, bn3, bn4⟩ := bn
    have hmz : (m : Int) ≠ 0 := by omega
    have hmz2 : m ≠ 0 := by omega
    have hgb : 0 ≤ G ∧ G < 21600000 := by omega
    clear r1 k1 hz T hm hH hX hN hG hG' AL AH G0 WR ht
    refine lay_start ?_
    go_enter Try.func60, Try.ntmps60
    go_wp2_with (go_at_call 27; refine (HW.out _).mono ?_; rintro e w' ⟨rfl, rfl⟩)
    go_loopw [7, 8] (fun vi vk wr => ∃ (k : Nat) (e : Ext), k ≤ m ∧ vk = .int .i64 k ∧ vi = .int .i64 (lastLe l H k : Nat) ∧ wr = lay w (.inr e :: [.inl (.cells #[.int .i64 0, .int .i64 0] 24)])) (fun _ k _ => m - (intOf k).toNat)
    case atStart => exact ⟨0, _, by omega, rfl, by rw [HL0.out]; go_num, Classical.choose_spec (lay_fold w [] _)⟩
    case round =>
      obtain ⟨k, e, hk, rfl, rfl, rfl⟩ := hrel
      by_cases hlt : k < m
      · obtain ⟨e1, e2, x1, x2⟩ := HR.out k hlt
        by_cases hc : hd l k ≤ H
        · have HS := Lib.hid (lastLe_step hc)
          go_wp2
          go_roundw
          case rel => exact ⟨k + 1, _, by omega, by go_num, by rw [HS.out], rfl⟩
          case measure => simp [intOf]; omega
        · have HS := Lib.hid (lastLe_stay hc)
          go_wp2
          go_roundw
          case rel => exact ⟨k + 1, _, by omega, by go_num, by rw [HS.out], rfl⟩
          case measure => simp [intOf]; omega
      · obtain rfl : k = m := by omega
        obtain ⟨e1, e2, x1, x2⟩ := HR.out X hXm
        obtain ⟨f1, f2, y1, y2⟩ := HR.out N hNm
        rw [HL.out k rfl]
        have hw1 : IntKind.i64.wrap ((X : Int) + 1) = (X : Int) + 1 := IntWalk.i64_in _ (by omega)
        have ht := HT.out
        clear hlt HL HL0 HLL HR
        go_wp2_with fail
        refine region_mixW [0, 0, 0, 0, 0, 0, 0, 0, 0, 0, 0, 2, 1, 1] (by kernel_rfl) (by kernel_rfl) (by kernel_rfl) ?_
        repeat (refine wpM_quiet (fun K hK => ?_); go_simp; first | (refine hK _ ?_; clear hK K) | (apply Exists.intro; refine ⟨fun _ => ?_, hK _ ?_⟩; (first | fail); clear hK K))
        refine wpM_two (fun J hJ d => ?_) (fun J hJ d => ?_)
        all_goals (go_simp; refine hJ _ _ (by first | exact lay_in w [_] _ | exact lay_in w [_, _] _ | exact lay_in w [_, _, _] _ | exact lay_in w [_, _, _, _] _ | exact lay_in w [_, _, _, _, _] _ | exact lay_in w [_, _, _, _, _, _] _) (fun K hK d => ?_); go_simp; refine hK _ _ (by first | exact lay_in w [_] _ | exact lay_in w [_, _] _ | exact lay_in w [_, _, _] _ | exact lay_in w [_, _, _, _] _ | exact lay_in w [_, _, _, _, _] _ | exact lay_in w [_, _, _, _, _, _] _) ?_; clear hK K hJ J)
        all_goals (repeat (first | (refine wpM_quiet (fun K hK => ?_); go_simp; first | (refine hK _ ?_; clear hK K) | (apply Exists.intro; refine ⟨fun _ => ?_, hK _ ?_⟩; (first | fail); clear hK K)) | (refine wpM_special (fun K hK d => ?_); go_simp; refine hK _ _ (by first | exact lay_in w [_] _ | exact lay_in w [_, _] _ | exact lay_in w [_, _, _] _ | exact lay_in w [_, _, _, _] _ | exact lay_in w [_, _, _, _, _] _ | exact lay_in w [_, _, _, _, _, _] _) ?_; clear hK K)))
        all_goals (refine wpM_nil ?_; intro d; rw [lay_bw])
        all_goals clear hw1 ht
        all_goals
          have HWG := fun W => ref05_Wrap (hd l N - hd l X) W
          rw [← HG.out] at HWG
          have HWG' := Lib.hid HWG
          clear HWG
          by_cases hG0 : G = 0
          · have hq : (G == 0) = true := beq_iff_eq.2 hG0
            have R := HG0.out hG0
            have e1 : atLo l n = dv l X := by rw [HAL.out, R, Int.sub_self, Int.zero_mul, Int.zero_ediv, Int.add_zero]
            have e2 : atHi l n = dv l X := by rw [HAH.out, R, Int.sub_self, Int.zero_mul]; unfold cdiv; rw [Int.neg_zero, Int.zero_ediv]; omega
            have E := Lib.hid (And.intro e1 e2)
            clear hG0 R e1 e2
            go_wp2_with (go_at_call 27; refine (HWG'.out _).mono ?_; rintro e w' ⟨rfl, rfl⟩)
            exact bodyPost_ret (v := (.agg #[.int .i64 (dv l X), .int .i64 (dv l X)])) (by simp [results, Try.results60, go_sem]) rfl ⟨by rw [E.out.1, E.out.2], lay_ex _ _⟩
          · have hq : (G == 0) = false := beq_eq_false_iff_ne.2 hG0
            obtain ⟨t, htd⟩ : ∃ t, t = (H - hd l X) % 21600000 := ⟨_, rfl⟩
            have HWT := fun W => ref05_Wrap (H - hd l X) W
            rw [← htd] at HWT
            have tb : 0 ≤ t ∧ t < 21600000 := by omega
            obtain ⟨tb1, tb2⟩ := tb
            have al := HAL.out
            have ah := HAH.out
            rw [← htd] at al ah
            have mb := mul_bnd (x := dv l N - dv l X) (k := t) (M := 3600000) (K := 21600000) (by omega) (by omega) (by omega) (by omega) (by omega)
            have hw1 : IntKind.i64.wrap (dv l N - dv l X) = dv l N - dv l X := IntWalk.i64_in _ (by omega)
            have hw2 : IntKind.i64.wrap (H - hd l X) = H - hd l X := IntWalk.i64_in _ (by omega)
            have hw3 : IntKind.i64.wrap ((dv l N - dv l X) * t) = (dv l N - dv l X) * t := IntWalk.i64_in _ (by omega)
            have HWT' := Lib.hid HWT
            clear HWT htd
            go_wp2_with (go_at_call 27; refine (HWG'.out _).mono ?_; rintro e w' ⟨rfl, rfl⟩)
            refine region_bw (by kernel_rfl) (by kernel_rfl) ?_
            repeat (go_big_quiet_step ((first | (go_at_call 27; exact bqs (HWT'.out _) ⟨_, rfl⟩))))
            refine wpQuiet_nil ?_
            rintro w' ⟨d, rfl⟩
            rw [lay_bw]
            clear hw1 hw2 hw3
            go_wp2_with fail
            generalize (dv l N - dv l X) * t = A at *
            obtain ⟨q1, hq1⟩ : ∃ q1, q1 = A / G := ⟨_, rfl⟩
            obtain ⟨q2, hq2⟩ : ∃ q2, q2 = cdiv A G := ⟨_, rfl⟩
            rw [← hq1] at al
            rw [← hq2] at ah
            have hw4 : IntKind.i64.wrap (dv l X + q1) = dv l X + q1 := IntWalk.i64_in _ (by omega)
            have hw5 : IntKind.i64.wrap (dv l X + q2) = dv l X + q2 := IntWalk.i64_in _ (by omega)
            have FL := fun W => ref05_Floor A G W (by omega) (by omega) (by omega)
            have CE := fun W => ref05_Ceil A G W (by omega) (by omega) (by omega)
            rw [← hq1] at FL
            rw [← hq2] at CE
            have FL' := Lib.hid FL
            have CE' := Lib.hid CE
            have E := Lib.hid (And.intro al ah)
            clear FL CE hq1 hq2 al ah
            refine region_bw_tail 13 (by kernel_rfl) (by kernel_rfl) ?_
            simp only [List.take_succ_cons, List.take_zero, List.drop_succ_cons, List.drop_zero]
            repeat (go_big_quiet_step ((first | (go_at_call 79; exact bqs (FL'.out _) ⟨_, rfl⟩) | (go_at_call 80; exact bqs (CE'.out _) ⟨_, rfl⟩))))
            refine wpQuiet_nil ?_
            rintro w' ⟨d, rfl⟩
            rw [lay_bw]
            go_wp2
            exact bodyPost_ret (v := (.agg #[.int .i64 (dv l X + q1), .int .i64 (dv l X + q2)])) (by simp [results, Try.results60, go_sem]) rfl ⟨by rw [E.out.1, E.out.2], lay_ex _ _⟩
end Go.Proofs.Ytjfkaogjlfgelaa
