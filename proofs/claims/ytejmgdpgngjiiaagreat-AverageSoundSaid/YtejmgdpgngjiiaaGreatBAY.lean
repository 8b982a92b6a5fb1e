/- Contracts and plain laws, several texts in one: Sn1 -/
import Derived.Test.YtejmgdpgngjiiaaGreatProg
import Derived.WalkKit
import Derived.WalkSpells
import Derived.WalkLawsBesides
import Derived.Lib.Hide
import Derived.BigQuiet
import Derived.Test.YtejmgdpgngjiiaaGreatBAA
import Derived.Test.YtejmgdpgngjiiaaGreatBAB
import Derived.Test.YtejmgdpgngjiiaaGreatBAO
import Derived.Test.YtejmgdpgngjiiaaGreatBAX
/- The law AverageSound. -/
namespace Go.Proofs.YtejmgdpgngjiiaaGreat
open Go.RowKit

theorem sgtS_is {l : List SgV} {n d f : Int} (h : sgtE l n d f = 0) : SgIs (sgtS l n d f) := by
  have h2 : sgtS l n d f = menS l n d (accS l (outS l n d f) l.length) := if_pos h
  rw [h2]
  unfold sgtE at h
  by_cases c : gvnE l n d f ≠ 0
  · rw [if_pos c] at h; exact absurd h c
  · rw [if_neg c] at h
    by_cases c2 : sgB (menS l n d (accS l (outS l n d f) l.length)) = true
    · exact sgB_iff.1 c2
    · rw [if_neg c2] at h; cases h
theorem spr_bd (es : List Int) : ∀ k, (∀ i, i < k → -32768 ≤ sndE es i ∧ sndE es i ≤ 32767) → 0 ≤ sprS es k ∧ sprS es k ≤ 32768
  | 0, _ => by unfold sprS; omega
  | k + 1, h => by
    have h1 := spr_bd es k (fun i hi => h i (by omega))
    have h2 := h k (by omega)
    unfold sprS
    rw [mx_eq, mx_eq]; omega
/-- The base of the sights. -/
def sn1 (s : SgV) : SgV := { s with lo := 1000000, hi := 1000000, hz := 1, sh := 0 }
theorem sn1_val (s : SgV) : (sn1 s).val = .agg #[.string s.body, .int .i64 s.limb, .int .i64 1000000, .int .i64 1000000, .int .i64 s.hs, .int .i64 s.wi, .int .i64 1, .int .i64 s.ey, .int .i64 0, .int .i64 s.te, .int .i64 s.pr] := rfl
theorem sn1_ok {s : SgV} (h : SgOk s) : SgOk (sn1 s) := ⟨h.body, by unfold i64B sn1; dsimp only; omega, by unfold i64B sn1; dsimp only; omega, h.hs, h.wi⟩
theorem snY_cells (s : SgV) (xs es : List Int) (g : Int) (k : Nat) : (sndY (sn1 s) xs es g k).cells = [.string s.body, .int .i64 s.limb, .int .i64 (1000000 + 1000 * nth xs k - 300), .int .i64 (1000000 + 1000 * nth xs k + 300), .int .i64 (s.hs + g * nth xs k + sndE es k), .int .i64 (mx (sndE es k) (-(sndE es k))), .int .i64 1, .int .i64 s.ey, .int .i64 0, .int .i64 s.te, .int .i64 s.pr] := rfl
theorem gx_bd {g x : Int} (hg : -128 ≤ g ∧ g ≤ 127) (hx : -32768 ≤ x ∧ x ≤ 32767) : -4194304 ≤ g * x ∧ g * x ≤ 4194304 := by
  have := mul_in (x := g) (k := x) 128 32768 (by omega) (by omega) (by decide)
  omega
theorem snY_ok {s : SgV} (hb : s.body.size ≤ 9223372036854775807) (hh : -60000 ≤ s.hs ∧ s.hs ≤ 7800000) {xs es : List Int} {g : Int} {k : Nat} (hg : -128 ≤ g ∧ g ≤ 127) (hx : -32768 ≤ nth xs k ∧ nth xs k ≤ 32767) (he : -32768 ≤ sndE es k ∧ sndE es k ≤ 32767) : SgOk (sndY (sn1 s) xs es g k) := by
  have h1 := gx_bd hg hx
  refine ⟨hb, ?_, ?_, ?_, ?_⟩ <;> unfold i64B sndY sn1 <;> dsimp only <;> (try rw [mx_eq]) <;> omega
set_option maxHeartbeats 4000000 in
set_option maxRecDepth 100000 in
theorem law23_Sound {w : World} (s : SgV) (hs : SgOk s) (vx : Value) (xs : List Int) (hx : LstK .i16 w vx xs) (ve : Value) (es : List Int) (he : LstK .i16 w ve es) (g : Int) (hg : (Lit.int .i8 g).wf = true) (fa : Int) (hfa : (Lit.int .u8 fa).wf = true) :
    Calls Tryz.prog 10 #[s.val, vx, ve, .int .i8 g, .int .u8 fa] w fun e w' => e = .returned (.bool true) ∧ ∃ d, w' = bw w d := by
  obtain ⟨a1, c1, rfl, hc1, hw1, hx⟩ := hx
  obtain ⟨a2, c2, rfl, hc2, hw2, he⟩ := he
  have HV := Lib.hid (fun W => ref22_Valid (sn1 s) W (sn1_ok hs))
  rw [sg_val]
  rw [sn1_val] at HV
  have hv1 := hs.body
  by_cases b1 : (100 : Int) < (s.body.size : Int)
  · have b1' := decide_eq_true b1
    clear hw1 hx hw2 he HV
    generalize xs.length = m1 at *
    generalize es.length = m2 at *
    refine lay_start ?_
    go_enter Tryz.func10, Tryz.ntmps10
    go_wp2_with (first | (go_at_call 12; refine (law23_awake _).mono ?_; rintro e w' ⟨rfl, dA, rfl⟩) | (go_at_call 36; refine (HV.out _).mono ?_; rintro e w' ⟨rfl, dV, rfl⟩))
    go_ret
    exact ⟨rfl, lay_ex _ _⟩
  have b1' := decide_eq_false b1
  by_cases b2 : xs.length = 0
  · have t2 : ((xs.length : Int) == 0) = true := beq_iff_eq.2 (by omega)
    clear hw1 hx hw2 he HV b2
    generalize xs.length = m1 at *
    generalize es.length = m2 at *
    refine lay_start ?_
    go_enter Tryz.func10, Tryz.ntmps10
    go_wp2_with (first | (go_at_call 12; refine (law23_awake _).mono ?_; rintro e w' ⟨rfl, dA, rfl⟩) | (go_at_call 36; refine (HV.out _).mono ?_; rintro e w' ⟨rfl, dV, rfl⟩))
    go_ret
    exact ⟨rfl, lay_ex _ _⟩
  have t2 : ((xs.length : Int) == 0) = false := beq_eq_false_iff_ne.2 (by omega)
  by_cases b3 : 16 < xs.length
  · have t3 : decide ((16 : Int) < (xs.length : Int)) = true := decide_eq_true (by omega)
    clear hw1 hx hw2 he HV b2 b3
    generalize xs.length = m1 at *
    generalize es.length = m2 at *
    refine lay_start ?_
    go_enter Tryz.func10, Tryz.ntmps10
    go_wp2_with (first | (go_at_call 12; refine (law23_awake _).mono ?_; rintro e w' ⟨rfl, dA, rfl⟩) | (go_at_call 36; refine (HV.out _).mono ?_; rintro e w' ⟨rfl, dV, rfl⟩))
    go_ret
    exact ⟨rfl, lay_ex _ _⟩
  have t3 : decide ((16 : Int) < (xs.length : Int)) = false := decide_eq_false (by omega)
  by_cases b4 : es.length = 0
  · have t4 : ((es.length : Int) == 0) = true := beq_iff_eq.2 (by omega)
    clear hw1 hx hw2 he HV b2 b3 b4
    generalize xs.length = m1 at *
    generalize es.length = m2 at *
    refine lay_start ?_
    go_enter Tryz.func10, Tryz.ntmps10
    go_wp2_with (first | (go_at_call 12; refine (law23_awake _).mono ?_; rintro e w' ⟨rfl, dA, rfl⟩) | (go_at_call 36; refine (HV.out _).mono ?_; rintro e w' ⟨rfl, dV, rfl⟩))
    go_ret
    exact ⟨rfl, lay_ex _ _⟩
  have t4 : ((es.length : Int) == 0) = false := beq_eq_false_iff_ne.2 (by omega)
  by_cases b5 : 16 < es.length
  · have t5 : decide ((16 : Int) < (es.length : Int)) = true := decide_eq_true (by omega)
    clear hw1 hx hw2 he HV b2 b3 b4 b5
    generalize xs.length = m1 at *
    generalize es.length = m2 at *
    refine lay_start ?_
    go_enter Tryz.func10, Tryz.ntmps10
    go_wp2_with (first | (go_at_call 12; refine (law23_awake _).mono ?_; rintro e w' ⟨rfl, dA, rfl⟩) | (go_at_call 36; refine (HV.out _).mono ?_; rintro e w' ⟨rfl, dV, rfl⟩))
    go_ret
    exact ⟨rfl, lay_ex _ _⟩
  have t5 : decide ((16 : Int) < (es.length : Int)) = false := decide_eq_false (by omega)
  cases hB : sgB (sn1 s)
  · rw [hB] at HV
    clear hw1 hx hw2 he b2 b3 b4 b5 hB
    generalize xs.length = m1 at *
    generalize es.length = m2 at *
    refine lay_start ?_
    go_enter Tryz.func10, Tryz.ntmps10
    go_wp2_with (first | (go_at_call 12; refine (law23_awake _).mono ?_; rintro e w' ⟨rfl, dA, rfl⟩) | (go_at_call 36; refine (HV.out _).mono ?_; rintro e w' ⟨rfl, dV, rfl⟩))
    go_ret
    exact ⟨rfl, lay_ex _ _⟩
  rw [hB] at HV
  have hI := sgB_iff.1 hB
  have hhs := hI.hs
  change -60000 ≤ s.hs ∧ s.hs ≤ 7800000 at hhs
  obtain ⟨p1, o1, rfl, hp1, hr1⟩ := hx (by intro e; rw [e] at b2; exact b2 rfl)
  obtain ⟨p2, o2, rfl, hp2, hr2⟩ := he (by intro e; rw [e] at b4; exact b4 rfl)
  have hgb := lit_k8 hg
  have hfb := lit_ku8 hfa
  have HX := Lib.hid (fun i (hi : i < xs.length) => lit_k16 (hw1 i hi))
  have HE := Lib.hid (fun i (hi : i < es.length) => lit_k16 (hw2 i hi))
  have HR1 := Lib.hid hr1
  have HR2 := Lib.hid hr2
  obtain ⟨m1, hm1⟩ : ∃ m, xs.length = m := ⟨_, rfl⟩
  obtain ⟨m2, hm2⟩ : ∃ m, es.length = m := ⟨_, rfl⟩
  have HM1 := Lib.hid hm1
  have HM2 := Lib.hid hm2
  have HB := Lib.hid hI
  rw [hm1] at t2 t3 HX HR1 hc1 b2 b3 ⊢
  rw [hm2] at t4 t5 HE HR2 hc2 b4 b5 ⊢
  clear hw1 hw2 hx he hr1 hr2 hm1 hm2 hB hI hg hfa hs
  refine lay_start ?_
  go_enter Tryz.func10, Tryz.ntmps10
  go_wp2_with (first | (go_at_call 12; refine (law23_awake _).mono ?_; rintro e w' ⟨rfl, dA, rfl⟩) | (go_at_call 36; refine (HV.out _).mono ?_; rintro e w' ⟨rfl, dV, rfl⟩))
  obtain ⟨d0, e0⟩ := lay_fold w [.inr dV, .inr dA] [.inl (.cells #[.string s.body, .int .i64 s.limb, .int .i64 1000000, .int .i64 1000000, .int .i64 s.hs, .int .i64 s.wi, .int .i64 1, .int .i64 s.ey, .int .i64 0, .int .i64 s.te, .int .i64 s.pr] 68 (0, 0))]
  change lay w [.inr dV, .inr dA, .inl (.cells #[.string s.body, .int .i64 s.limb, .int .i64 1000000, .int .i64 1000000, .int .i64 s.hs, .int .i64 s.wi, .int .i64 1, .int .i64 s.ey, .int .i64 0, .int .i64 s.te, .int .i64 s.pr] 68 (0, 0))] = lay w [.inr d0, .inl (.cells #[.string s.body, .int .i64 s.limb, .int .i64 1000000, .int .i64 1000000, .int .i64 s.hs, .int .i64 s.wi, .int .i64 1, .int .i64 s.ey, .int .i64 0, .int .i64 s.te, .int .i64 s.pr] 68 (0, 0))] at e0
  rw [e0]
  clear e0
  go_loopw [11, 12, 60] (fun v11 v12 v60 wr => ∃ (k : Nat) (dd : Ext), k ≤ m1 ∧ v60 = .int .i64 (k : Int) ∧ v12 = .int .i64 (sprS es k) ∧ wr = lay w [.inr dd, .inl (.cells #[.string s.body, .int .i64 s.limb, .int .i64 1000000, .int .i64 1000000, .int .i64 s.hs, .int .i64 s.wi, .int .i64 1, .int .i64 s.ey, .int .i64 0, .int .i64 s.te, .int .i64 s.pr] 68 (0, 0))] ∧ OwG sgR (lay w [.inr dd, .inl (.cells #[.string s.body, .int .i64 s.limb, .int .i64 1000000, .int .i64 1000000, .int .i64 s.hs, .int .i64 s.wi, .int .i64 1, .int .i64 s.ey, .int .i64 0, .int .i64 s.te, .int .i64 s.pr] 68 (0, 0))]) (lay w [.inl (.cells #[.string s.body, .int .i64 s.limb, .int .i64 1000000, .int .i64 1000000, .int .i64 s.hs, .int .i64 s.wi, .int .i64 1, .int .i64 s.ey, .int .i64 0, .int .i64 s.te, .int .i64 s.pr] 68 (0, 0))]).heap.size v11 (sndL (sn1 s) xs es g k) ∧ ∀ i, i < k → sgB (sndY (sn1 s) xs es g i) = true) (fun _ _ v60 _ => m1 - (intOf v60).toNat)
  case atStart => exact ⟨0, d0, Nat.zero_le _, rfl, rfl, rfl, OwG.nil _ _ _, fun i hi => absurd hi (Nat.not_lt_zero _)⟩
  case round =>
    obtain ⟨k, dd, hk, rfl, rfl, rfl, hO, hA⟩ := hrel
    have HO := Lib.hid hO
    have HA := Lib.hid hA
    clear hO hA
    by_cases hlt : k < m1
    · have e1 := HR1.out k hlt
      have x1 : (k : Int) < (m1 : Int) := by omega
      have x0 : (0 : Int) ≤ (k : Int) := by omega
      have hX := HX.out k hlt
      obtain ⟨j, hj⟩ : ∃ j, k % m2 = j := ⟨_, rfl⟩
      have hj2 : j < m2 := by rw [← hj]; exact Nat.mod_lt _ (by omega)
      have e2 := HR2.out j hj2
      have hE := HE.out j hj2
      have r0 : (m2 : Int) ≠ 0 := by omega
      have r1 : (k : Int).tmod (m2 : Int) = (j : Int) := by rw [Int.tmod_eq_emod_of_nonneg (by omega), ← hj]; omega
      have r2 : (k : Int) % (m2 : Int) = (j : Int) := by rw [← hj]; omega
      have r3 : IntKind.i64.wrap (j : Int) = (j : Int) := IntWalk.i64_in _ (by omega)
      have r4 : (0 : Int) ≤ (j : Int) := by omega
      have r5 : (j : Int) < (m2 : Int) := by omega
      have hse : sndE es k = nth es j := by unfold sndE; rw [HM2.out, hj]
      have hY := snY_ok (s := s) (xs := xs) (es := es) (k := k) hv1 hhs hgb hX (by rw [hse]; exact hE)
      have HVY := Lib.hid (fun W => ref22_Valid (sndY (sn1 s) xs es g k) W hY)
      have hcs := snY_cells s xs es g k
      have hSP := Lib.hid (show sprS es (k + 1) = mx (sprS es k) (mx (sndE es k) (-(sndE es k))) from rfl)
      have HLS := Lib.hid (sndL_succ (s := sn1 s) (xs := xs) (es := es) (g := g) k)
      have hlen : (sndL (sn1 s) xs es g k).length ≤ 1000000000 := by rw [sndL_len]; omega
      have hG := gx_bd hgb hX
      rw [hse] at hcs hSP
      generalize hy : sndY (sn1 s) xs es g k = y at *
      generalize nth xs k = x at *
      generalize nth es j = e at *
      obtain ⟨GX, hGX⟩ : ∃ GX, g * x = GX := ⟨_, rfl⟩
      obtain ⟨TX, hTX⟩ : ∃ TX, 1000 * x = TX := ⟨_, rfl⟩
      obtain ⟨TA, hTA⟩ : ∃ TA, 1000000 + TX = TA := ⟨_, rfl⟩
      obtain ⟨LO, hLO⟩ : ∃ LO, TA - 300 = LO := ⟨_, rfl⟩
      obtain ⟨HI, hHI⟩ : ∃ HI, TA + 300 = HI := ⟨_, rfl⟩
      obtain ⟨H1, hH1⟩ : ∃ H1, s.hs + GX = H1 := ⟨_, rfl⟩
      obtain ⟨HS, hHS⟩ : ∃ HS, H1 + e = HS := ⟨_, rfl⟩
      obtain ⟨NE, hNE⟩ : ∃ NE, -e = NE := ⟨_, rfl⟩
      obtain ⟨WI, hWI⟩ : ∃ WI, mx e NE = WI := ⟨_, rfl⟩
      obtain ⟨SP2, hSP2⟩ : ∃ SP2, mx (sprS es k) WI = SP2 := ⟨_, rfl⟩
      rw [hGX] at hG
      rw [hTX, hTA, hLO, hHI, hGX, hH1, hHS, hNE, hWI] at hcs
      rw [hNE, hWI, hSP2] at hSP
      have k1 : IntKind.i64.wrap x = x := IntWalk.i64_in _ (by omega)
      have k2 : IntKind.i64.wrap TX = TX := IntWalk.i64_in _ (by omega)
      have k3 : IntKind.i64.wrap TA = TA := IntWalk.i64_in _ (by omega)
      have k4 : IntKind.i64.wrap LO = LO := IntWalk.i64_in _ (by omega)
      have k5 : IntKind.i64.wrap HI = HI := IntWalk.i64_in _ (by omega)
      have k6 : IntKind.i64.wrap g = g := IntWalk.i64_in _ (by omega)
      have k7 : IntKind.i64.wrap GX = GX := IntWalk.i64_in _ (by omega)
      have k8 : IntKind.i64.wrap H1 = H1 := IntWalk.i64_in _ (by omega)
      have k9 : IntKind.i64.wrap HS = HS := IntWalk.i64_in _ (by omega)
      have k10 : IntKind.i64.wrap e = e := IntWalk.i64_in _ (by omega)
      have k11 : IntKind.i64.wrap NE = NE := IntWalk.i64_in _ (by omega)
      have hval : y.val = .agg #[.string s.body, .int .i64 s.limb, .int .i64 LO, .int .i64 HI, .int .i64 HS, .int .i64 WI, .int .i64 1, .int .i64 s.ey, .int .i64 0, .int .i64 s.te, .int .i64 s.pr] := by unfold SgV.val; rw [hcs]
      rw [hval] at HVY
      have HCS := Lib.hid hcs
      have HY := Lib.hid hY
      have HYE := Lib.hid hy
      have y1 : (0 : Int) < (m2 : Int) := by omega
      clear hval hcs hY hy hse hG hX hE hj
      generalize sprS es k = SP at *
      generalize hLL : sndL (sn1 s) xs es g k = LL at *
      clear hLL
      cases hBy : sgB y
      · rw [hBy] at HVY
        clear hBy
        go_wp2_with (go_at_call 36; refine (HVY.out _).mono ?_; rintro e w' ⟨rfl, dY, rfl⟩)
        go_ret
        exact ⟨rfl, lay_ex _ _⟩
      · rw [hBy] at HVY
        have HBy := Lib.hid hBy
        clear hBy
        go_wp2_with (first | (go_at_call 36; refine (HVY.out _).mono ?_; rintro e w' ⟨rfl, dY, rfl⟩) | (at_builtin; refine push_rec sgROk rfl _ _ rfl (lay w [.inl (.cells #[.string s.body, .int .i64 s.limb, .int .i64 1000000, .int .i64 1000000, .int .i64 s.hs, .int .i64 s.wi, .int .i64 1, .int .i64 s.ey, .int .i64 0, .int .i64 s.te, .int .i64 s.pr] 68 (0, 0))]) _ y #[.string s.body, .int .i64 s.limb, .int .i64 LO, .int .i64 HI, .int .i64 HS, .int .i64 WI, .int .i64 1, .int .i64 s.ey, .int .i64 0, .int .i64 s.te, .int .i64 s.pr] 68 _ _ LL ?_ (owG_on (A := [_, _, _]) HO.out) ?_ HCS.out.symm rfl rfl hlen HY.out ?_; exact lay_belowG (A := [_, _, _, _]); exact lay_get w _ 0 _ rfl; intro v' d' hv'; have HN := Lib.hid hv'; clear hv'))
        go_roundw
        case rel => exact ⟨k + 1, d', hlt, by go_num, by rw [hSP.out], rfl, by rw [HLS.out]; exact HN.out, fun i hi => by
          by_cases c : i < k
          · exact HA.out i c
          · obtain rfl : i = k := by omega
            rw [HYE.out]; exact HBy.out⟩
        case measure => simp [intOf]; omega
    · obtain rfl : k = m1 := by omega
      have x9 : ¬ (k : Int) < (k : Int) := by omega
      obtain ⟨r, hr⟩ : ∃ r, fa % 100 = r := ⟨_, rfl⟩
      have kt : fa.tmod 100 = r := by rw [Int.tmod_eq_emod_of_nonneg (by omega)]; exact hr
      have OO : SndOk (sn1 s) xs es g (1 + r) := ⟨by rw [HM1.out]; omega, by rw [HM1.out]; omega, hgb.1, hgb.2, by omega, by omega, by rw [HM1.out]; exact HX.out, by rw [HM1.out]; exact HA.out⟩
      have hER := snd_err OO
      have hLW := snd_law OO
      have hIS := sgtS_is (l := sndL (sn1 s) xs es g xs.length) (n := g) (d := 1) (f := 1 + r)
      rw [HM1.out] at hER hLW hIS
      have hSB := spr_bd es k (fun i hi => by unfold sndE; exact HE.out _ (by rw [HM2.out]; exact Nat.mod_lt _ (by omega)))
      have SGT := Lib.hid (fun v W (q : SlG sgR W v (sndL (sn1 s) xs es g k)) => av_Sights v (sndL (sn1 s) xs es g k) g 1 (1 + r) W q)
      have HLn := sndL_len (s := sn1 s) (xs := xs) (es := es) (g := g) k
      generalize sndL (sn1 s) xs es g k = LL at *
      generalize sgtE LL g 1 (1 + r) = EE at *
      generalize sgtS LL g 1 (1 + r) = R at *
      generalize sgtL LL g 1 (1 + r) = OUT at *
      change EE = 0 → 2 * OUT.length ≤ k ∧ (2 * sprS es k < 100 → OUT = []) ∧ R.hi - R.lo = 600 ∧ 1000 * (R.hs - s.hs) - g * (R.lo + 300 - 1000000) ≤ 1000 * R.wi ∧ -(1000 * R.wi) ≤ 1000 * (R.hs - s.hs) - g * (R.lo + 300 - 1000000) at hLW
      generalize sprS es k = SP at *
      obtain ⟨av, cv, hva⟩ := HO.out.form
      rw [HLn] at hva
      have hOsl := HO.out.sl sgROk
      subst hva
      have HOS := Lib.hid hOsl
      have u1 : IntKind.i64.wrap fa = fa := IntWalk.i64_in _ (by omega)
      have u3 : IntKind.i64.wrap r = r := IntWalk.i64_in _ (by omega)
      have u4 : IntKind.i64.wrap (1 + r) = 1 + r := IntWalk.i64_in _ (by omega)
      have u5 : IntKind.i64.wrap g = g := IntWalk.i64_in _ (by omega)
      obtain ⟨T2, hT2⟩ : ∃ T2, 2 * SP = T2 := ⟨_, rfl⟩
      have u6 : IntKind.i64.wrap T2 = T2 := IntWalk.i64_in _ (by omega)
      have kt2 : fa % 100 = r := hr
      rcases hER with rfl | rfl
      · have hL := hLW rfl
        have hI := hIS rfl
        clear hLW hIS HA OO hOsl HLn
        obtain ⟨l1, l2, l3, l4, l5⟩ := hL
        obtain ⟨q, hq⟩ : ∃ q, OUT.length = q := ⟨_, rfl⟩
        have hq0 : T2 < 100 → q = 0 := fun h => by rw [← hq, l2 (by omega)]; rfl
        have HQ := Lib.hid hq
        rw [hq] at l1
        have i1 := (timB_iff.1 hI.tm)
        have i2 := hI.hs
        have i3 := hI.wi
        clear hI hq
        have hrv := sg_val R
        obtain ⟨rb, rl, rlo, rhi, rhs, rwi, rhz, rey, rsh, rte, rpr⟩ := R
        dsimp only at l3 l4 l5 i1 i2 i3 hrv
        have hga := mul_in (x := g) (k := rlo + 300 - 1000000) 128 140737488355328 (by omega) (by omega) (by decide)
        obtain ⟨Q2, hQ2⟩ : ∃ Q2, 2 * (q : Int) = Q2 := ⟨_, rfl⟩
        obtain ⟨U1, hU1⟩ : ∃ U1, rlo + 300 = U1 := ⟨_, rfl⟩
        obtain ⟨AT, hAT⟩ : ∃ AT, U1 - 1000000 = AT := ⟨_, rfl⟩
        rw [hU1, hAT] at hga l4 l5
        obtain ⟨GA, hGA⟩ : ∃ GA, g * AT = GA := ⟨_, rfl⟩
        obtain ⟨DH, hDH⟩ : ∃ DH, rhs - s.hs = DH := ⟨_, rfl⟩
        obtain ⟨KH, hKH⟩ : ∃ KH, 1000 * DH = KH := ⟨_, rfl⟩
        obtain ⟨OFF, hOFF⟩ : ∃ OFF, KH - GA = OFF := ⟨_, rfl⟩
        obtain ⟨W1, hW1⟩ : ∃ W1, 1000 * rwi = W1 := ⟨_, rfl⟩
        obtain ⟨W2, hW2⟩ : ∃ W2, -1000 * rwi = W2 := ⟨_, rfl⟩
        rw [hGA] at hga
        rw [hDH, hKH, hGA, hOFF, hW1] at l4 l5
        have z1 : IntKind.i64.wrap Q2 = Q2 := IntWalk.i64_in _ (by omega)
        have z2 : IntKind.i64.wrap U1 = U1 := IntWalk.i64_in _ (by omega)
        have z3 : IntKind.i64.wrap AT = AT := IntWalk.i64_in _ (by omega)
        have z4 : IntKind.i64.wrap GA = GA := IntWalk.i64_in _ (by omega)
        have z5 : IntKind.i64.wrap DH = DH := IntWalk.i64_in _ (by omega)
        have z6 : IntKind.i64.wrap KH = KH := IntWalk.i64_in _ (by omega)
        have z7 : IntKind.i64.wrap OFF = OFF := IntWalk.i64_in _ (by omega)
        have z8 : IntKind.i64.wrap W1 = W1 := IntWalk.i64_in _ (by omega)
        have z9 : IntKind.i64.wrap W2 = W2 := IntWalk.i64_in _ (by omega)
        have z10 : IntKind.i64.wrap 600 = 600 := IntWalk.i64_in _ (by omega)
        have j1 : decide ((k : Int) < Q2) = false := decide_eq_false (by omega)
        have j2 : decide (OFF ≤ W1) = true := decide_eq_true l4
        have j3 : decide (W2 ≤ OFF) = true := decide_eq_true (by omega)
        clear l1 l2 l4 l5 i1 i2 i3 hga hSB hr hfb
        by_cases hn : T2 < 100
        · have n1 : decide (T2 < 100) = true := decide_eq_true hn
          have n2 : decide ((0 : Int) < (q : Int)) = false := decide_eq_false (by have := hq0 hn; omega)
          have n3 : ¬ (0 : Int) < (q : Int) := by have := hq0 hn; omega
          have n4 : ¬ 0 < q := by have := hq0 hn; omega
          have n5 : decide (0 < q) = false := decide_eq_false n4
          clear hn hq0
          go_wp2_with (first | (go_at_call 24; refine (law23_whole g _).mono ?_; rintro e w' ⟨rfl, dW, rfl⟩) | (go_at_call 33; refine (SGT.out _ _ (slG_on (A := [_]) HOS.out)).mono ?_; rintro e w' ⟨vo, dS, he, rfl, ho⟩; rw [hrv] at he; obtain ⟨ao, co, hvo⟩ := ho.form; rw [HQ.out] at hvo; subst hvo; subst he; clear ho))
          go_ret
          exact ⟨rfl, lay_ex _ _⟩
        · have n1 : decide (T2 < 100) = false := decide_eq_false hn
          clear hn hq0
          go_wp2_with (first | (go_at_call 24; refine (law23_whole g _).mono ?_; rintro e w' ⟨rfl, dW, rfl⟩) | (go_at_call 33; refine (SGT.out _ _ (slG_on (A := [_]) HOS.out)).mono ?_; rintro e w' ⟨vo, dS, he, rfl, ho⟩; rw [hrv] at he; obtain ⟨ao, co, hvo⟩ := ho.form; rw [HQ.out] at hvo; subst hvo; subst he; clear ho))
          go_ret
          exact ⟨rfl, lay_ex _ _⟩
      · clear hLW hIS HA OO hOsl HLn hSB hr
        go_wp2_with (first | (go_at_call 24; refine (law23_whole g _).mono ?_; rintro e w' ⟨rfl, dW, rfl⟩) | (go_at_call 33; refine (SGT.out _ _ (slG_on (A := [_]) HOS.out)).mono ?_; rintro e w' ⟨vo, dS, he, rfl, ho⟩; rw [sg_val] at he; subst he; clear ho))
        go_ret
        exact ⟨rfl, lay_ex _ _⟩
end Go.Proofs.YtejmgdpgngjiiaaGreat
