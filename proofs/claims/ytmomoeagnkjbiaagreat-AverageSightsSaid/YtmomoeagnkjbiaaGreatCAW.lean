/- Contracts and plain laws, several texts in one: Rg3 -/
import Derived.Test.YtmomoeagnkjbiaaGreatProg
import Derived.WalkKit
import Derived.WalkSpells
import Derived.WalkLawsBesides
import Derived.Lib.Hide
import Derived.BigQuiet
import Derived.Test.YtmomoeagnkjbiaaGreatCAA
import Derived.Test.YtmomoeagnkjbiaaGreatCAB
import Derived.Test.YtmomoeagnkjbiaaGreatCAR
import Derived.Test.YtmomoeagnkjbiaaGreatCAV
/- The reference on sights: Mean. -/
namespace Go.Proofs.YtmomoeagnkjbiaaGreat
open Go.RowKit

theorem nmPO_agg {w : World} {z : Int} {k : Nat} {e : Ending} {w' : World} (h : NmPO w z k e w') : ∃ (A : Option Addr) (m C : Nat) (g : Bool) (d : Ext), e = .returned (.agg #[.slice A m C, .bool g]) ∧ w' = bw w d ∧ NmK (bw w d) (.agg #[.slice A m C, .bool g]) z k := by
  obtain ⟨v, d, rfl, rfl, h⟩ := h
  have hk := h.k
  obtain ⟨a, c, l, neg, rfl, -⟩ := h
  exact ⟨a, l.length, c, neg, d, rfl, rfl, hk⟩
theorem men_hs {l : List SgV} {n d : Int} {a : AccV} (hn : 1 ≤ a.n) (hd : 1 ≤ d) : (2000 * d * a.re + 2 * n * (a.n * atS a - a.ti) + 1000 * a.n * d) / (2000 * a.n * d) = (menS l n d a).hs := by
  have h := mn_split (readings := a.re) (times := a.ti) (at_ := atS a) (p := n) (n := a.n) (d := d) (by omega) (by omega)
  unfold mnHs at h
  rw [show (2000 : Int) * a.n * d = 2000 * d * a.n by rw [Int.mul_assoc, Int.mul_comm a.n, ← Int.mul_assoc], show (1000 : Int) * a.n * d = 1000 * d * a.n by rw [Int.mul_assoc, Int.mul_comm a.n, ← Int.mul_assoc], Int.mul_comm a.n (atS a)]
  rw [← h]
  rfl
set_option maxHeartbeats 8000000 in
set_option maxRecDepth 100000 in
theorem r23_Mean (v vo : Value) (l : List SgV) (n d f : Int) (OUT : List Int) (w : World) (hl : SlG sgR w v l) (ho : Sl w vo OUT) (hon : OUT.length ≤ 1000000) (o : SgsOk l n d f) (hA1 : 1 ≤ (accS l OUT l.length).n) :
    Calls Tryz.prog 61 #[v, (.agg #[.int .i64 (n), .int .i64 (d)]), vo] w fun e w' => e = .returned (menS l n d (accS l OUT l.length)).val ∧ ∃ d, w' = bw w d := by
  have HI := Lib.hid (fun x L => r23_in vo OUT x (lay w L) (ho.lay L) hon)
  have HO := Lib.hid o
  have o1 := o.l1
  have o2 := o.l2
  obtain ⟨b, oo, cap, rfl, hcp, hb, hC⟩ := sg_cells hl o1
  have HC := Lib.hid hC
  have HF := Lib.hid (hC 0 (by omega))
  rw [← fstS_get, Nat.zero_mul, Nat.add_zero] at HF
  have HAb := Lib.hid (fun j (hj : j ≤ l.length) => acc_bd o OUT j hj)
  have HAs : Hid (∀ j, accS l OUT (j + 1) = if OUT.contains (j : Int) then accS l OUT j else
    ⟨(accS l OUT j).n + 1, (accS l OUT j).ti + nth (tsS l) j, (accS l OUT j).re + (getS l j).hs, (accS l OUT j).wi + (getS l j).wi,
      mx (accS l OUT j).be (midI (getS l j) - (getS l j).lo), mx (accS l OUT j).af ((getS l j).hi - midI (getS l j))⟩) := Lib.hid fun _ => rfl
  have HA0 : Hid (accS l OUT 0 = ⟨0, 0, 0, 0, 0, 0⟩) := Lib.hid rfl
  have HTn := Lib.hid (fun i (hi : i < l.length) => tsS_nth hi)
  have hv0 := o.get (i := 0) (by omega)
  rw [← fstS_get] at hv0
  have hm0 := hv0.t.mid
  have HM0 := Lib.hid (fun W => r23_Middle (fstS l) W hv0.t)
  have HA1 := Lib.hid hA1
  obtain ⟨m, hm⟩ : ∃ m, l.length = m := ⟨_, rfl⟩
  have HM := Lib.hid hm
  rw [hm] at hcp HC HAb HTn HA1 o1 o2 ⊢
  obtain ⟨ACC, hACC⟩ : ∃ ACC, accS l OUT = ACC := ⟨_, rfl⟩
  rw [hACC] at HAb HAs HA0 HA1 ⊢
  have HX0 := Lib.hid (And.intro hm0 hv0)
  obtain ⟨FIN, hFIN⟩ : ∃ z, menS l n d (ACC m) = z := ⟨_, rfl⟩
  have HFIN := Lib.hid hFIN
  rw [hFIN]
  clear hFIN
  obtain ⟨q0, q1, q2, q3, q4, q5, q6, q7, q8, q9, q10⟩ := HF.out
  have y1 : (0 : Int) < (m : Int) := by omega
  have y2 : 0 < m := by omega
  obtain ⟨M0, hM0⟩ : ∃ M, midI (fstS l) = M := ⟨_, rfl⟩
  rw [sg_val, hM0] at HM0
  rw [hM0] at HX0
  have HMM := Lib.hid hM0
  obtain ⟨a3, c3, rfl, -⟩ := ho
  clear hACC hl hC hm o hv0 hA1 hm0 hM0
  refine lay_start ?_
  go_enter Tryz.func61, Tryz.ntmps61
  go_wp2_with (go_at_call 59; refine (HM0.out _).mono ?_; rintro e w' ⟨rfl, dM, rfl⟩; rw [lay_bw])
  go_loopw [8, 9, 10, 11, 12, 13, 14] (fun v8 v9 v10 v11 v12 v13 v14 wr => ∃ (j : Nat) (dd : Ext), j ≤ m ∧ v14 = .int .i64 (j : Int) ∧ v8 = .int .i64 (ACC j).n ∧ v9 = .int .i64 (ACC j).ti ∧ v10 = .int .i64 (ACC j).re ∧ v11 = .int .i64 (ACC j).wi ∧ v12 = .int .i64 (ACC j).be ∧ v13 = .int .i64 (ACC j).af ∧ wr = lay w [.inr dd, .inl (.cells #[.string ⟨#[]⟩, .int .i64 0, .int .i64 0, .int .i64 0, .int .i64 0, .int .i64 0, .int .i64 0, .int .i64 0, .int .i64 0, .int .i64 0, .int .i64 0] 57 (0, 0)), .inl (.cells #[.int .i64 n, .int .i64 d] 26 (0, 0))]) (fun _ _ _ _ _ _ v14 _ => m - (intOf v14).toNat)
  case atStart => exact ⟨0, dM, Nat.zero_le _, rfl, by rw [HA0.out], by rw [HA0.out], by rw [HA0.out], by rw [HA0.out], by rw [HA0.out], by rw [HA0.out], rfl⟩
  case round =>
    obtain ⟨j, dj, hj, rfl, rfl, rfl, rfl, rfl, rfl, rfl, rfl⟩ := hrel
    by_cases hlt : j < m
    · obtain ⟨c0, c1, c2, c3, c4, c5, c6, c7, c8, c9, c10⟩ := HC.out j hlt
      have x1 : (j : Int) < (m : Int) := by omega
      have x0 : (0 : Int) ≤ (j : Int) := by omega
      have w3 : IntKind.i64.wrap ((j : Int) + 1) = (j : Int) + 1 := IntWalk.i64_in _ (by omega)
      have hv := HO.out.get (i := j) (by rw [HM.out]; exact hlt)
      have HMs := Lib.hid (fun W => r23_Middle (getS l j) W hv.t)
      have hm1 := hv.t.mid
      have ht1 := HO.out.t (i := j) (by rw [HM.out]; exact hlt)
      have htn := HTn.out j hlt
      rw [HMM.out] at htn
      have hhs := hv.hs
      have hwi := hv.wi
      have hT1 := hv.t.lo
      have hT2 := hv.t.hi
      have hX := HX0.out.1
      have HIj := Lib.hid (fun L => HI.out (j : Int) L)
      have hst := HAs.out j
      obtain ⟨n0, n1, t0, t1, r0, r1, w0, w1, b0, b1, a0, a1⟩ := HAb.out j hj
      generalize getS l j = s at *
      generalize nth (tsS l) j = tj at *
      rw [sg_val] at HMs
      obtain ⟨A, hA⟩ : ∃ A, ACC j = A := ⟨_, rfl⟩
      rw [hA] at hst n0 n1 t0 t1 r0 r1 w0 w1 b0 b1 a0 a1 ⊢
      cases hC : OUT.contains (j : Int)
      · rw [hC] at HIj hst
        rw [if_neg (by decide)] at hst
        generalize midI s = M at *
        obtain ⟨TI, hTI⟩ : ∃ T, A.ti + tj = T := ⟨_, rfl⟩
        have k1 : IntKind.i64.wrap (A.n + 1) = A.n + 1 := IntWalk.i64_in _ (by omega)
        have k2 : IntKind.i64.wrap (A.ti + M) = A.ti + M := IntWalk.i64_in _ (by omega)
        have k7 : IntKind.i64.wrap (A.ti + M - M0) = TI := by rw [IntWalk.i64_in _ (by omega)]; omega
        have k3 : IntKind.i64.wrap (A.re + s.hs) = A.re + s.hs := IntWalk.i64_in _ (by omega)
        have k4 : IntKind.i64.wrap (A.wi + s.wi) = A.wi + s.wi := IntWalk.i64_in _ (by omega)
        have k5 : IntKind.i64.wrap (M - s.lo) = M - s.lo := IntWalk.i64_in _ (by omega)
        have k6 : IntKind.i64.wrap (s.hi - M) = s.hi - M := IntWalk.i64_in _ (by omega)
        rw [hTI] at hst
        unfold mx at hst
        by_cases g1 : A.be < M - s.lo
        · rw [if_pos g1] at hst
          by_cases g2 : A.af < s.hi - M
          · rw [if_pos g2] at hst
            have HST := Lib.hid hst
            clear hst hC hv hm1 ht1 htn hhs hwi hT1 hT2 hX n0 n1 t0 t1 r0 r1 w0 w1 b0 b1 a0 a1 hA hTI
            go_wp2_with (first | (go_at_call 110; refine (HIj.out _).mono ?_; rintro e w' ⟨rfl, di, rfl⟩; rw [lay_bw]) | (go_at_call 59; refine (HMs.out _).mono ?_; rintro e w' ⟨rfl, dm, rfl⟩; rw [lay_bw]))
            go_roundw
            case rel =>
              obtain ⟨dN, eN⟩ := lay_fold w [.inr dm, .inr di, .inr dj] [.inl (.cells #[.string ⟨#[]⟩, .int .i64 0, .int .i64 0, .int .i64 0, .int .i64 0, .int .i64 0, .int .i64 0, .int .i64 0, .int .i64 0, .int .i64 0, .int .i64 0] 57 (0, 0)), .inl (.cells #[.int .i64 n, .int .i64 d] 26 (0, 0))]
              exact ⟨j + 1, dN, by omega, by go_num, by rw [HST.out], by rw [HST.out], by rw [HST.out], by rw [HST.out], by rw [HST.out], by rw [HST.out], eN⟩
            case measure => simp [intOf]; omega
          · rw [if_neg g2] at hst
            have HST := Lib.hid hst
            clear hst hC hv hm1 ht1 htn hhs hwi hT1 hT2 hX n0 n1 t0 t1 r0 r1 w0 w1 b0 b1 a0 a1 hA hTI
            go_wp2_with (first | (go_at_call 110; refine (HIj.out _).mono ?_; rintro e w' ⟨rfl, di, rfl⟩; rw [lay_bw]) | (go_at_call 59; refine (HMs.out _).mono ?_; rintro e w' ⟨rfl, dm, rfl⟩; rw [lay_bw]))
            go_roundw
            case rel =>
              obtain ⟨dN, eN⟩ := lay_fold w [.inr dm, .inr di, .inr dj] [.inl (.cells #[.string ⟨#[]⟩, .int .i64 0, .int .i64 0, .int .i64 0, .int .i64 0, .int .i64 0, .int .i64 0, .int .i64 0, .int .i64 0, .int .i64 0, .int .i64 0] 57 (0, 0)), .inl (.cells #[.int .i64 n, .int .i64 d] 26 (0, 0))]
              exact ⟨j + 1, dN, by omega, by go_num, by rw [HST.out], by rw [HST.out], by rw [HST.out], by rw [HST.out], by rw [HST.out], by rw [HST.out], eN⟩
            case measure => simp [intOf]; omega
        · rw [if_neg g1] at hst
          by_cases g2 : A.af < s.hi - M
          · rw [if_pos g2] at hst
            have HST := Lib.hid hst
            clear hst hC hv hm1 ht1 htn hhs hwi hT1 hT2 hX n0 n1 t0 t1 r0 r1 w0 w1 b0 b1 a0 a1 hA hTI
            go_wp2_with (first | (go_at_call 110; refine (HIj.out _).mono ?_; rintro e w' ⟨rfl, di, rfl⟩; rw [lay_bw]) | (go_at_call 59; refine (HMs.out _).mono ?_; rintro e w' ⟨rfl, dm, rfl⟩; rw [lay_bw]))
            go_roundw
            case rel =>
              obtain ⟨dN, eN⟩ := lay_fold w [.inr dm, .inr di, .inr dj] [.inl (.cells #[.string ⟨#[]⟩, .int .i64 0, .int .i64 0, .int .i64 0, .int .i64 0, .int .i64 0, .int .i64 0, .int .i64 0, .int .i64 0, .int .i64 0, .int .i64 0] 57 (0, 0)), .inl (.cells #[.int .i64 n, .int .i64 d] 26 (0, 0))]
              exact ⟨j + 1, dN, by omega, by go_num, by rw [HST.out], by rw [HST.out], by rw [HST.out], by rw [HST.out], by rw [HST.out], by rw [HST.out], eN⟩
            case measure => simp [intOf]; omega
          · rw [if_neg g2] at hst
            have HST := Lib.hid hst
            clear hst hC hv hm1 ht1 htn hhs hwi hT1 hT2 hX n0 n1 t0 t1 r0 r1 w0 w1 b0 b1 a0 a1 hA hTI
            go_wp2_with (first | (go_at_call 110; refine (HIj.out _).mono ?_; rintro e w' ⟨rfl, di, rfl⟩; rw [lay_bw]) | (go_at_call 59; refine (HMs.out _).mono ?_; rintro e w' ⟨rfl, dm, rfl⟩; rw [lay_bw]))
            go_roundw
            case rel =>
              obtain ⟨dN, eN⟩ := lay_fold w [.inr dm, .inr di, .inr dj] [.inl (.cells #[.string ⟨#[]⟩, .int .i64 0, .int .i64 0, .int .i64 0, .int .i64 0, .int .i64 0, .int .i64 0, .int .i64 0, .int .i64 0, .int .i64 0, .int .i64 0] 57 (0, 0)), .inl (.cells #[.int .i64 n, .int .i64 d] 26 (0, 0))]
              exact ⟨j + 1, dN, by omega, by go_num, by rw [HST.out], by rw [HST.out], by rw [HST.out], by rw [HST.out], by rw [HST.out], by rw [HST.out], eN⟩
            case measure => simp [intOf]; omega
      · rw [hC] at HIj hst
        rw [if_pos rfl] at hst
        have HST := Lib.hid (hst.trans hA.symm)
        have hA2 := Lib.hid hA
        clear hst hC hv hm1 ht1 htn hhs hwi hT1 hT2 hX n0 n1 t0 t1 r0 r1 w0 w1 b0 b1 a0 a1 hA
        go_wp2_with (go_at_call 110; refine (HIj.out _).mono ?_; rintro e w' ⟨rfl, di, rfl⟩; rw [lay_bw])
        go_roundw
        case rel =>
          obtain ⟨dN, eN⟩ := lay_fold w [.inr di, .inr dj] [.inl (.cells #[.string ⟨#[]⟩, .int .i64 0, .int .i64 0, .int .i64 0, .int .i64 0, .int .i64 0, .int .i64 0, .int .i64 0, .int .i64 0, .int .i64 0, .int .i64 0] 57 (0, 0)), .inl (.cells #[.int .i64 n, .int .i64 d] 26 (0, 0))]
          exact ⟨j + 1, dN, by omega, by go_num, by rw [HST.out, hA2.out], by rw [HST.out, hA2.out], by rw [HST.out, hA2.out], by rw [HST.out, hA2.out], by rw [HST.out, hA2.out], by rw [HST.out, hA2.out], eN⟩
        case measure => simp [intOf]; omega
    · obtain rfl : j = m := by omega
      have x9 : ¬ (j : Int) < (j : Int) := by omega
      have HA := Lib.hid (HA1.out)
      have hAB := HAb.out j (Nat.le_refl _)
      have hMB := men_bd hAB o2 HA1.out HO.out.fr
      obtain ⟨s1, s2, dd1, dd2⟩ := HO.out.fr
      have hhs := men_hs (l := l) (n := n) (d := d) HA1.out dd1
      have hm0 := HX0.out.1
      have hA1 := HA1.out
      have hMEN := HFIN.out
      clear HFIN
      clear HAs HA0 HAb HTn HC HI HA HA1
      generalize ACC j = A at *
      obtain ⟨N, TI, RE, WI, BE, AF⟩ := A
      dsimp only at hAB hMB hhs hA1
      obtain ⟨n0, n1, t0, t1, r0, r1, w0, w1, b0, b1, a0, a1⟩ := hAB
      dsimp only at n0 n1 t0 t1 r0 r1 w0 w1 b0 b1 a0 a1
      have hHb : -4611686018427387904 ≤ (menS l n d ⟨N, TI, RE, WI, BE, AF⟩).hs ∧ (menS l n d ⟨N, TI, RE, WI, BE, AF⟩).hs ≤ 4611686018427387904 := by
        have h1 := hMB.wh0; have h2 := hMB.fq
        dsimp only at h1 h2
        unfold menS
        dsimp only
        omega
      have hat := hMB.at0
      have hq2 := hMB.q2
      have hv := hMB.v
      have hdd := hMB.dd
      have hp3 := hMB.p3
      dsimp only at hat hq2 hv hdd hp3
      have hmen : menS l n d ⟨N, TI, RE, WI, BE, AF⟩ = ⟨(fstS l).body, (fstS l).limb, midI (fstS l) + atS ⟨N, TI, RE, WI, BE, AF⟩ - BE, midI (fstS l) + atS ⟨N, TI, RE, WI, BE, AF⟩ + AF, (menS l n d ⟨N, TI, RE, WI, BE, AF⟩).hs, cdiv (2 * WI + N) (2 * N), (fstS l).hz, (fstS l).ey, (fstS l).sh, (fstS l).te, (fstS l).pr⟩ := by
        unfold cdiv
        rw [show -(2 * WI + N) = -2 * WI - N by omega]
        rfl
      have HFl := Lib.hid (fun W => ref05_Floor TI N W hA1 (by omega) (by omega))
      have HCe := Lib.hid (fun W => ref05_Ceil (2 * WI + N) (2 * N) W (by omega) (by omega) (by omega))
      rw [show TI / N = atS ⟨N, TI, RE, WI, BE, AF⟩ from rfl] at HFl
      rw [HMM.out] at hmen
      rw [hMEN] at hhs hHb hmen
      obtain ⟨HS, hHS⟩ : ∃ z, FIN.hs = z := ⟨_, rfl⟩
      rw [hHS] at hhs hHb hmen
      rw [Int.mul_comm] at hq2
      rw [Int.mul_comm _ N] at hv
      clear hMEN hHS hMB
      generalize atS ⟨N, TI, RE, WI, BE, AF⟩ = AT at *
      generalize cdiv (2 * WI + N) (2 * N) = WN at *
      obtain ⟨DD, hDD⟩ : ∃ z, 2000 * N * d = z := ⟨_, rfl⟩
      obtain ⟨CC, hCC⟩ : ∃ z, 1000 * N * d = z := ⟨_, rfl⟩
      obtain ⟨Q2, hQ2⟩ : ∃ z, N * AT = z := ⟨_, rfl⟩
      rw [hQ2] at hhs hq2 hv
      rw [hDD, hCC] at hhs
      rw [show 2000 * d * N = DD by rw [← hDD, Int.mul_assoc, Int.mul_comm d, ← Int.mul_assoc]] at hdd
      rw [show 1000 * d * N = CC by rw [← hCC, Int.mul_assoc, Int.mul_comm d, ← Int.mul_assoc]] at hp3
      obtain ⟨V, hV⟩ : ∃ z, Q2 - TI = z := ⟨_, rfl⟩
      rw [hV] at hhs hv
      have k1 : IntKind.i64.wrap (2000 * N) = 2000 * N := IntWalk.i64_in _ (by omega)
      have k2 : IntKind.i64.wrap (2000 * N * d) = DD := by rw [hDD]; exact IntWalk.i64_in _ (by omega)
      have k3 : IntKind.i64.wrap (N * AT) = Q2 := by rw [hQ2]; exact IntWalk.i64_in _ (by omega)
      have k4 : IntKind.i64.wrap (Q2 - TI) = V := by rw [hV]; exact IntWalk.i64_in _ (by omega)
      have k5 : IntKind.i64.wrap (1000 * N) = 1000 * N := IntWalk.i64_in _ (by omega)
      have k6 : IntKind.i64.wrap (1000 * N * d) = CC := by rw [hCC]; exact IntWalk.i64_in _ (by omega)
      obtain ⟨P1, hP1⟩ : ∃ z, 2000 * d = z := ⟨_, rfl⟩
      obtain ⟨P2, hP2⟩ : ∃ z, 2 * n = z := ⟨_, rfl⟩
      have k7 : IntKind.i64.wrap (2000 * d) = P1 := by rw [hP1]; exact IntWalk.i64_in _ (by omega)
      have k8 : IntKind.i64.wrap (2 * n) = P2 := by rw [hP2]; exact IntWalk.i64_in _ (by omega)
      rw [hP1, hP2] at hhs
      have k9 : IntKind.i64.wrap (2 * WI) = 2 * WI := IntWalk.i64_in _ (by omega)
      have k10 : IntKind.i64.wrap (2 * WI + N) = 2 * WI + N := IntWalk.i64_in _ (by omega)
      have k11 : IntKind.i64.wrap (2 * N) = 2 * N := IntWalk.i64_in _ (by omega)
      obtain ⟨M1, hM1⟩ : ∃ z, M0 + AT = z := ⟨_, rfl⟩
      have k12 : IntKind.i64.wrap (M0 + AT) = M1 := by rw [hM1]; exact IntWalk.i64_in _ (by omega)
      have k13 : IntKind.i64.wrap (M1 - BE) = M1 - BE := IntWalk.i64_in _ (by omega)
      have k14 : IntKind.i64.wrap (M1 + AF) = M1 + AF := IntWalk.i64_in _ (by omega)
      rw [hM1] at hmen
      have HN1 := Lib.hid (fun W => r23_num P1 W (by omega))
      have HN2 := Lib.hid (fun W => r23_num RE W (by omega))
      have HN3 := Lib.hid (fun W => r23_num P2 W (by omega))
      have HN4 := Lib.hid (fun W => r23_num V W (by omega))
      have HN5 := Lib.hid (fun W => r23_num CC W (by omega))
      have HN6 := Lib.hid (fun W => r23_num DD W (by omega))
      have HMu1 := Lib.hid (fun a b W (q1 : NmK W a P1 3) (q2 : NmK W b RE 3) => dg_Mul a b _ _ 3 3 W q1 q2 (by decide) (by decide))
      have HMu2 := Lib.hid (fun a b W (q1 : NmK W a P2 3) (q2 : NmK W b V 3) => dg_Mul a b _ _ 3 3 W q1 q2 (by decide) (by decide))
      have HP1 := Lib.hid (fun a b W (q1 : NmK W a (P1 * RE) 6) (q2 : NmK W b (P2 * V) 6) => dg_Plus a b _ _ 6 6 W q1 q2 (by decide) (by decide))
      have HP2 := Lib.hid (fun a b W (q1 : NmK W a (P1 * RE + P2 * V) 7) (q2 : NmK W b CC 3) => dg_Plus a b _ _ 7 3 W q1 q2 (by decide) (by decide))
      have HDn := Lib.hid (fun a b W (q1 : NmK W a (P1 * RE + P2 * V + CC) 8) (q2 : NmK W b DD 3) => dg_Down a b _ _ 8 3 W q1 q2 (by omega) (by decide) (by decide))
      have HIn := Lib.hid (fun a W (q : NmK W a HS 10) => r23_integer a _ 10 W q hHb (by decide))
      rw [hhs] at HDn
      have HMn : Hid (FIN.val = .agg #[.string (fstS l).body, .int .i64 (fstS l).limb, .int .i64 (M1 - BE), .int .i64 (M1 + AF), .int .i64 HS, .int .i64 WN, .int .i64 (fstS l).hz, .int .i64 (fstS l).ey, .int .i64 (fstS l).sh, .int .i64 (fstS l).te, .int .i64 (fstS l).pr]) := Lib.hid (by rw [hmen]; rfl)
      clear hhs hHb hat hq2 hv hdd hp3 hmen hDD hCC hQ2 hV hP1 hP2 hM1 n0 n1 t0 t1 r0 r1 w0 w1 b0 b1 a0 a1 s1 s2 dd1 dd2 hm0 hA1 HX0 HMM
      generalize fstS l = s0 at *
      go_wp2_with (go_at_call 109; refine (HFl.out _).mono ?_; rintro e w1 ⟨rfl, hw1⟩; rw [hw1])
      refine (HN1.out _).mono ?_
      rintro e w' hnm
      obtain ⟨A1, m1, C1, g1, d1, rfl, rfl, h1⟩ := nmPO_agg hnm
      rw [lay_bw] at h1 ⊢
      have H1 := Lib.hid h1
      clear h1 hnm
      go_wp2_with fail
      refine (HN2.out _).mono ?_
      rintro e w' hnm
      obtain ⟨A2, m2, C2, g2, d2, rfl, rfl, h2⟩ := nmPO_agg hnm
      rw [lay_bw] at h2 ⊢
      have H2 := Lib.hid h2
      clear h2 hnm
      go_wp2_with fail
      refine (HMu1.out _ _ (lay w [.inr d2, .inr d1, .inr dj, .inl (.cells #[.string ⟨#[]⟩, .int .i64 0, .int .i64 0, .int .i64 0, .int .i64 0, .int .i64 0, .int .i64 0, .int .i64 0, .int .i64 0, .int .i64 0, .int .i64 0] 57 (0, 0)), .inl (.cells #[.int .i64 n, .int .i64 d] 26 (0, 0))]) (nmK_on (A := [.inr d2]) H1.out) H2.out).mono ?_
      rintro e w' hnm
      obtain ⟨A3, m3, C3, g3, d3, rfl, rfl, h3⟩ := nmPO_agg hnm
      rw [lay_bw] at h3 ⊢
      have H3 := Lib.hid h3
      clear h3 hnm
      go_wp2_with fail
      refine (HN3.out _).mono ?_
      rintro e w' hnm
      obtain ⟨A4, m4, C4, g4, d4, rfl, rfl, h4⟩ := nmPO_agg hnm
      rw [lay_bw] at h4 ⊢
      have H4 := Lib.hid h4
      clear h4 hnm
      go_wp2_with fail
      refine (HN4.out _).mono ?_
      rintro e w' hnm
      obtain ⟨A5, m5, C5, g5, d5, rfl, rfl, h5⟩ := nmPO_agg hnm
      rw [lay_bw] at h5 ⊢
      have H5 := Lib.hid h5
      clear h5 hnm
      go_wp2_with fail
      refine (HMu2.out _ _ (lay w [.inr d5, .inr d4, .inl (.cells #[.slice A3 m3 C3, .bool g3] 130 (0, 0)), .inr d3, .inr d2, .inr d1, .inr dj, .inl (.cells #[.string ⟨#[]⟩, .int .i64 0, .int .i64 0, .int .i64 0, .int .i64 0, .int .i64 0, .int .i64 0, .int .i64 0, .int .i64 0, .int .i64 0, .int .i64 0] 57 (0, 0)), .inl (.cells #[.int .i64 n, .int .i64 d] 26 (0, 0))]) (nmK_on (A := [.inr d5]) H4.out) H5.out).mono ?_
      rintro e w' hnm
      obtain ⟨A6, m6, C6, g6, d6, rfl, rfl, h6⟩ := nmPO_agg hnm
      rw [lay_bw] at h6 ⊢
      have H6 := Lib.hid h6
      clear h6 hnm
      go_wp2_with fail
      refine (HN5.out _).mono ?_
      rintro e w' hnm
      obtain ⟨A7, m7, C7, g7, d7, rfl, rfl, h7⟩ := nmPO_agg hnm
      rw [lay_bw] at h7 ⊢
      have H7 := Lib.hid h7
      clear h7 hnm
      go_wp2_with fail
      refine region_mixB 9 (.q 0 (.q 1 (.q 3 (.q 5 (.one 2 (.one 4 (.one 6 (.one 7 (.one 8 .done))))))))) (by kernel_rfl) (by kernel_rfl) (by kernel_rfl) (by kernel_rfl) (by simp) (by kernel_rfl) ?_
      simp only [List.drop_succ_cons, List.drop_zero]
      repeat (refine wpMB_quiet rfl (fun K hK => ?_); go_simp; refine hK _ ?_; clear hK K)
      refine wpMB_one ?_
      refine spB_of rfl (fun K hK f1 => ?_)
      rw [lay_bw]
      go_simp
      refine (HP1.out _ _ (lay w [.inr f1, .inl (.cells #[.string s0.body, .int .i64 s0.limb, .int .i64 s0.lo, .int .i64 s0.hi, .int .i64 s0.hs, .int .i64 s0.wi, .int .i64 s0.hz, .int .i64 s0.ey, .int .i64 s0.sh, .int .i64 s0.te, .int .i64 s0.pr] 57 (0, 0)), .inl (.cells #[.slice A7 m7 C7, .bool g7] 130 (0, 0)), .inr d7, .inl (.cells #[.slice A6 m6 C6, .bool g6] 130 (0, 0)), .inr d6, .inr d5, .inr d4, .inl (.cells #[.slice A3 m3 C3, .bool g3] 130 (0, 0)), .inr d3, .inr d2, .inr d1, .inr dj, .inl (.cells #[.string ⟨#[]⟩, .int .i64 0, .int .i64 0, .int .i64 0, .int .i64 0, .int .i64 0, .int .i64 0, .int .i64 0, .int .i64 0, .int .i64 0, .int .i64 0] 57 (0, 0)), .inl (.cells #[.int .i64 n, .int .i64 d] 26 (0, 0))]) (nmK_on (A := [.inr f1, .inl (.cells #[.string s0.body, .int .i64 s0.limb, .int .i64 s0.lo, .int .i64 s0.hi, .int .i64 s0.hs, .int .i64 s0.wi, .int .i64 s0.hz, .int .i64 s0.ey, .int .i64 s0.sh, .int .i64 s0.te, .int .i64 s0.pr] 57 (0, 0)), .inl (.cells #[.slice A7 m7 C7, .bool g7] 130 (0, 0)), .inr d7, .inl (.cells #[.slice A6 m6 C6, .bool g6] 130 (0, 0)), .inr d6, .inr d5, .inr d4, .inl (.cells #[.slice A3 m3 C3, .bool g3] 130 (0, 0))]) H3.out) (nmK_on (A := [.inr f1, .inl (.cells #[.string s0.body, .int .i64 s0.limb, .int .i64 s0.lo, .int .i64 s0.hi, .int .i64 s0.hs, .int .i64 s0.wi, .int .i64 s0.hz, .int .i64 s0.ey, .int .i64 s0.sh, .int .i64 s0.te, .int .i64 s0.pr] 57 (0, 0)), .inl (.cells #[.slice A7 m7 C7, .bool g7] 130 (0, 0)), .inr d7, .inl (.cells #[.slice A6 m6 C6, .bool g6] 130 (0, 0))]) H6.out)).mono ?_
      rintro e w' hnm
      obtain ⟨A8, m8, C8, g8, d8, rfl, rfl, h8⟩ := nmPO_agg hnm
      rw [lay_bw] at h8 ⊢
      have H8 := Lib.hid h8
      clear h8 hnm
      refine ⟨_, rfl, hK _ _ (lay_in w [.inr d8, .inr f1] [.inl (.cells #[.string s0.body, .int .i64 s0.limb, .int .i64 s0.lo, .int .i64 s0.hi, .int .i64 s0.hs, .int .i64 s0.wi, .int .i64 s0.hz, .int .i64 s0.ey, .int .i64 s0.sh, .int .i64 s0.te, .int .i64 s0.pr] 57 (0, 0)), .inl (.cells #[.slice A7 m7 C7, .bool g7] 130 (0, 0)), .inr d7, .inl (.cells #[.slice A6 m6 C6, .bool g6] 130 (0, 0)), .inr d6, .inr d5, .inr d4, .inl (.cells #[.slice A3 m3 C3, .bool g3] 130 (0, 0)), .inr d3, .inr d2, .inr d1, .inr dj, .inl (.cells #[.string ⟨#[]⟩, .int .i64 0, .int .i64 0, .int .i64 0, .int .i64 0, .int .i64 0, .int .i64 0, .int .i64 0, .int .i64 0, .int .i64 0, .int .i64 0] 57 (0, 0)), .inl (.cells #[.int .i64 n, .int .i64 d] 26 (0, 0))]) ?_⟩
      clear hK K
      refine wpMB_one ?_
      refine spB_of rfl (fun K hK f2 => ?_)
      rw [lay_bw]
      go_simp
      refine (HP2.out _ _ (lay w [.inr f2, .inr d8, .inr f1, .inl (.cells #[.string s0.body, .int .i64 s0.limb, .int .i64 s0.lo, .int .i64 s0.hi, .int .i64 s0.hs, .int .i64 s0.wi, .int .i64 s0.hz, .int .i64 s0.ey, .int .i64 s0.sh, .int .i64 s0.te, .int .i64 s0.pr] 57 (0, 0)), .inl (.cells #[.slice A7 m7 C7, .bool g7] 130 (0, 0)), .inr d7, .inl (.cells #[.slice A6 m6 C6, .bool g6] 130 (0, 0)), .inr d6, .inr d5, .inr d4, .inl (.cells #[.slice A3 m3 C3, .bool g3] 130 (0, 0)), .inr d3, .inr d2, .inr d1, .inr dj, .inl (.cells #[.string ⟨#[]⟩, .int .i64 0, .int .i64 0, .int .i64 0, .int .i64 0, .int .i64 0, .int .i64 0, .int .i64 0, .int .i64 0, .int .i64 0, .int .i64 0] 57 (0, 0)), .inl (.cells #[.int .i64 n, .int .i64 d] 26 (0, 0))]) (nmK_on (A := [.inr f2]) H8.out) (nmK_on (A := [.inr f2, .inr d8, .inr f1, .inl (.cells #[.string s0.body, .int .i64 s0.limb, .int .i64 s0.lo, .int .i64 s0.hi, .int .i64 s0.hs, .int .i64 s0.wi, .int .i64 s0.hz, .int .i64 s0.ey, .int .i64 s0.sh, .int .i64 s0.te, .int .i64 s0.pr] 57 (0, 0)), .inl (.cells #[.slice A7 m7 C7, .bool g7] 130 (0, 0))]) H7.out)).mono ?_
      rintro e w' hnm
      obtain ⟨A9, m9, C9, g9, d9, rfl, rfl, h9⟩ := nmPO_agg hnm
      rw [lay_bw] at h9 ⊢
      have H9 := Lib.hid h9
      clear h9 hnm
      refine ⟨_, rfl, hK _ _ (lay_in w [.inr d9, .inr f2, .inr d8, .inr f1] [.inl (.cells #[.string s0.body, .int .i64 s0.limb, .int .i64 s0.lo, .int .i64 s0.hi, .int .i64 s0.hs, .int .i64 s0.wi, .int .i64 s0.hz, .int .i64 s0.ey, .int .i64 s0.sh, .int .i64 s0.te, .int .i64 s0.pr] 57 (0, 0)), .inl (.cells #[.slice A7 m7 C7, .bool g7] 130 (0, 0)), .inr d7, .inl (.cells #[.slice A6 m6 C6, .bool g6] 130 (0, 0)), .inr d6, .inr d5, .inr d4, .inl (.cells #[.slice A3 m3 C3, .bool g3] 130 (0, 0)), .inr d3, .inr d2, .inr d1, .inr dj, .inl (.cells #[.string ⟨#[]⟩, .int .i64 0, .int .i64 0, .int .i64 0, .int .i64 0, .int .i64 0, .int .i64 0, .int .i64 0, .int .i64 0, .int .i64 0, .int .i64 0] 57 (0, 0)), .inl (.cells #[.int .i64 n, .int .i64 d] 26 (0, 0))]) ?_⟩
      clear hK K
      refine wpMB_one ?_
      refine spB_of rfl (fun K hK f3 => ?_)
      rw [lay_bw]
      go_simp
      refine (HN6.out _).mono ?_
      rintro e w' hnm
      obtain ⟨A10, m10, C10, g10, d10, rfl, rfl, h10⟩ := nmPO_agg hnm
      rw [lay_bw] at h10 ⊢
      have H10 := Lib.hid h10
      clear h10 hnm
      refine ⟨_, rfl, hK _ _ (lay_in w [.inr d10, .inr f3, .inr d9, .inr f2, .inr d8, .inr f1] [.inl (.cells #[.string s0.body, .int .i64 s0.limb, .int .i64 s0.lo, .int .i64 s0.hi, .int .i64 s0.hs, .int .i64 s0.wi, .int .i64 s0.hz, .int .i64 s0.ey, .int .i64 s0.sh, .int .i64 s0.te, .int .i64 s0.pr] 57 (0, 0)), .inl (.cells #[.slice A7 m7 C7, .bool g7] 130 (0, 0)), .inr d7, .inl (.cells #[.slice A6 m6 C6, .bool g6] 130 (0, 0)), .inr d6, .inr d5, .inr d4, .inl (.cells #[.slice A3 m3 C3, .bool g3] 130 (0, 0)), .inr d3, .inr d2, .inr d1, .inr dj, .inl (.cells #[.string ⟨#[]⟩, .int .i64 0, .int .i64 0, .int .i64 0, .int .i64 0, .int .i64 0, .int .i64 0, .int .i64 0, .int .i64 0, .int .i64 0, .int .i64 0] 57 (0, 0)), .inl (.cells #[.int .i64 n, .int .i64 d] 26 (0, 0))]) ?_⟩
      clear hK K
      refine wpMB_one ?_
      refine spB_of rfl (fun K hK f4 => ?_)
      rw [lay_bw]
      go_simp
      refine (HDn.out _ _ (lay w [.inr f4, .inr d10, .inr f3, .inr d9, .inr f2, .inr d8, .inr f1, .inl (.cells #[.string s0.body, .int .i64 s0.limb, .int .i64 s0.lo, .int .i64 s0.hi, .int .i64 s0.hs, .int .i64 s0.wi, .int .i64 s0.hz, .int .i64 s0.ey, .int .i64 s0.sh, .int .i64 s0.te, .int .i64 s0.pr] 57 (0, 0)), .inl (.cells #[.slice A7 m7 C7, .bool g7] 130 (0, 0)), .inr d7, .inl (.cells #[.slice A6 m6 C6, .bool g6] 130 (0, 0)), .inr d6, .inr d5, .inr d4, .inl (.cells #[.slice A3 m3 C3, .bool g3] 130 (0, 0)), .inr d3, .inr d2, .inr d1, .inr dj, .inl (.cells #[.string ⟨#[]⟩, .int .i64 0, .int .i64 0, .int .i64 0, .int .i64 0, .int .i64 0, .int .i64 0, .int .i64 0, .int .i64 0, .int .i64 0, .int .i64 0] 57 (0, 0)), .inl (.cells #[.int .i64 n, .int .i64 d] 26 (0, 0))]) (nmK_on (A := [.inr f4, .inr d10, .inr f3]) H9.out) (nmK_on (A := [.inr f4]) H10.out)).mono ?_
      rintro e w' hnm
      obtain ⟨A11, m11, C11, g11, d11, rfl, rfl, h11⟩ := nmPO_agg hnm
      rw [lay_bw] at h11 ⊢
      have H11 := Lib.hid h11
      clear h11 hnm
      refine ⟨_, rfl, hK _ _ (lay_in w [.inr d11, .inr f4, .inr d10, .inr f3, .inr d9, .inr f2, .inr d8, .inr f1] [.inl (.cells #[.string s0.body, .int .i64 s0.limb, .int .i64 s0.lo, .int .i64 s0.hi, .int .i64 s0.hs, .int .i64 s0.wi, .int .i64 s0.hz, .int .i64 s0.ey, .int .i64 s0.sh, .int .i64 s0.te, .int .i64 s0.pr] 57 (0, 0)), .inl (.cells #[.slice A7 m7 C7, .bool g7] 130 (0, 0)), .inr d7, .inl (.cells #[.slice A6 m6 C6, .bool g6] 130 (0, 0)), .inr d6, .inr d5, .inr d4, .inl (.cells #[.slice A3 m3 C3, .bool g3] 130 (0, 0)), .inr d3, .inr d2, .inr d1, .inr dj, .inl (.cells #[.string ⟨#[]⟩, .int .i64 0, .int .i64 0, .int .i64 0, .int .i64 0, .int .i64 0, .int .i64 0, .int .i64 0, .int .i64 0, .int .i64 0, .int .i64 0] 57 (0, 0)), .inl (.cells #[.int .i64 n, .int .i64 d] 26 (0, 0))]) ?_⟩
      clear hK K
      refine wpMB_one ?_
      refine spB_of rfl (fun K hK f5 => ?_)
      rw [lay_bw]
      go_simp
      refine (HIn.out _ (lay w [.inr f5, .inr d11, .inr f4, .inr d10, .inr f3, .inr d9, .inr f2, .inr d8, .inr f1, .inl (.cells #[.string s0.body, .int .i64 s0.limb, .int .i64 s0.lo, .int .i64 s0.hi, .int .i64 s0.hs, .int .i64 s0.wi, .int .i64 s0.hz, .int .i64 s0.ey, .int .i64 s0.sh, .int .i64 s0.te, .int .i64 s0.pr] 57 (0, 0)), .inl (.cells #[.slice A7 m7 C7, .bool g7] 130 (0, 0)), .inr d7, .inl (.cells #[.slice A6 m6 C6, .bool g6] 130 (0, 0)), .inr d6, .inr d5, .inr d4, .inl (.cells #[.slice A3 m3 C3, .bool g3] 130 (0, 0)), .inr d3, .inr d2, .inr d1, .inr dj, .inl (.cells #[.string ⟨#[]⟩, .int .i64 0, .int .i64 0, .int .i64 0, .int .i64 0, .int .i64 0, .int .i64 0, .int .i64 0, .int .i64 0, .int .i64 0, .int .i64 0] 57 (0, 0)), .inl (.cells #[.int .i64 n, .int .i64 d] 26 (0, 0))]) (nmK_on (A := [.inr f5]) H11.out)).mono ?_
      rintro e w' ⟨rfl, d12, rfl⟩
      rw [lay_bw]
      refine ⟨_, rfl, hK _ _ (lay_in w [.inr d12, .inr f5, .inr d11, .inr f4, .inr d10, .inr f3, .inr d9, .inr f2, .inr d8, .inr f1] [.inl (.cells #[.string s0.body, .int .i64 s0.limb, .int .i64 s0.lo, .int .i64 s0.hi, .int .i64 s0.hs, .int .i64 s0.wi, .int .i64 s0.hz, .int .i64 s0.ey, .int .i64 s0.sh, .int .i64 s0.te, .int .i64 s0.pr] 57 (0, 0)), .inl (.cells #[.slice A7 m7 C7, .bool g7] 130 (0, 0)), .inr d7, .inl (.cells #[.slice A6 m6 C6, .bool g6] 130 (0, 0)), .inr d6, .inr d5, .inr d4, .inl (.cells #[.slice A3 m3 C3, .bool g3] 130 (0, 0)), .inr d3, .inr d2, .inr d1, .inr dj, .inl (.cells #[.string ⟨#[]⟩, .int .i64 0, .int .i64 0, .int .i64 0, .int .i64 0, .int .i64 0, .int .i64 0, .int .i64 0, .int .i64 0, .int .i64 0, .int .i64 0] 57 (0, 0)), .inl (.cells #[.int .i64 n, .int .i64 d] 26 (0, 0))]) ?_⟩
      clear hK K
      refine wpMB_done (fun dz => ?_)
      show wpList _ _ _ _ _ _
      rw [lay_bw]
      clear H1 H2 H3 H4 H5 H6 H7 H8 H9 H10 H11
      go_wp2_with (go_at_call 111; refine (HCe.out _).mono ?_; rintro e w1 ⟨rfl, hw1⟩; rw [hw1])
      exact bodyPost_ret (v := .agg #[.string s0.body, .int .i64 s0.limb, .int .i64 (M1 - BE), .int .i64 (M1 + AF), .int .i64 HS, .int .i64 WN, .int .i64 s0.hz, .int .i64 s0.ey, .int .i64 s0.sh, .int .i64 s0.te, .int .i64 s0.pr]) (by simp [results, Tryz.results61, go_sem]) rfl ⟨by rw [HMn.out], lay_ex _ _⟩
end Go.Proofs.YtmomoeagnkjbiaaGreat
