/- Contracts and plain laws, several texts in one: On1 -/
import Derived.Test.YtejmgdpgngjiiaaGreatProg
import Derived.WalkKit
import Derived.WalkSpells
import Derived.WalkLawsBesides
import Derived.Lib.Hide
import Derived.BigQuiet
import Derived.Test.YtejmgdpgngjiiaaGreatBAA
import Derived.Test.YtejmgdpgngjiiaaGreatBAB
import Derived.Test.YtejmgdpgngjiiaaGreatBAO
import Derived.Test.YtejmgdpgngjiiaaGreatBAZ
import Derived.Test.YtejmgdpgngjiiaaGreatBBA
/- The law AverageOne. -/
namespace Go.Proofs.YtejmgdpgngjiiaaGreat
open Go.RowKit

set_option maxHeartbeats 4000000 in
set_option maxRecDepth 100000 in
theorem law23_One {w : World} (s : SgV) (hs : SgOk s) (k0 : Int) (hk0 : (Lit.int .u8 k0).wf = true) (n d : Int) (_hn : (Lit.int .i64 n).wf = true) (_hd : (Lit.int .i64 d).wf = true) :
    Calls Tryz.prog 11 #[s.val, .int .u8 k0, (.agg #[.int .i64 (n), .int .i64 (d)])] w fun e w' => e = .returned (.bool true) ∧ ∃ d, w' = bw w d := by
  have HV := Lib.hid (fun W => ref22_Valid s W hs)
  have HF := Lib.hid (fun W => r3_Valid n d W)
  have HS := Lib.hid (fun (h : SlOk n d) W => r23_Slope1 n d W h)
  rw [sg_val] at *
  have hkb := lit_ku8 hk0
  have hb0 := hs.body
  by_cases b1 : (100 : Int) < (s.body.size : Int)
  · have b1' := decide_eq_true b1
    clear hk0 hs
    refine lay_start ?_
    go_enter Tryz.func11, Tryz.ntmps11
    go_wp2_with (first | (go_at_call 12; refine (law23_awake _).mono ?_; rintro e w' ⟨rfl, dA, rfl⟩) | (go_at_call 36; refine (HV.out _).mono ?_; rintro e w' ⟨rfl, dV, rfl⟩) | (go_at_call 22; refine (HF.out _).mono ?_; rintro e w' ⟨rfl, dF, rfl⟩) | (go_at_call 37; refine (HS1.out _).mono ?_; rintro e w' ⟨rfl, dS, rfl⟩))
    go_ret
    exact ⟨rfl, lay_ex _ _⟩
  have b1' := decide_eq_false b1
  cases hB : sgB s
  · rw [hB] at HV
    clear hB hk0 hs
    refine lay_start ?_
    go_enter Tryz.func11, Tryz.ntmps11
    go_wp2_with (first | (go_at_call 12; refine (law23_awake _).mono ?_; rintro e w' ⟨rfl, dA, rfl⟩) | (go_at_call 36; refine (HV.out _).mono ?_; rintro e w' ⟨rfl, dV, rfl⟩) | (go_at_call 22; refine (HF.out _).mono ?_; rintro e w' ⟨rfl, dF, rfl⟩) | (go_at_call 37; refine (HS1.out _).mono ?_; rintro e w' ⟨rfl, dS, rfl⟩))
    go_ret
    exact ⟨rfl, lay_ex _ _⟩
  rw [hB] at HV
  by_cases b2 : s.wi = 60000
  · have b2' : (s.wi == 60000) = true := beq_iff_eq.2 b2
    clear hB hk0 hs b2
    refine lay_start ?_
    go_enter Tryz.func11, Tryz.ntmps11
    go_wp2_with (first | (go_at_call 12; refine (law23_awake _).mono ?_; rintro e w' ⟨rfl, dA, rfl⟩) | (go_at_call 36; refine (HV.out _).mono ?_; rintro e w' ⟨rfl, dV, rfl⟩) | (go_at_call 22; refine (HF.out _).mono ?_; rintro e w' ⟨rfl, dF, rfl⟩) | (go_at_call 37; refine (HS1.out _).mono ?_; rintro e w' ⟨rfl, dS, rfl⟩))
    go_ret
    exact ⟨rfl, lay_ex _ _⟩
  have b2' : (s.wi == 60000) = false := beq_eq_false_iff_ne.2 b2
  cases hF : fracB n d
  · rw [hF] at HF
    clear hB hF hk0 hs b2
    refine lay_start ?_
    go_enter Tryz.func11, Tryz.ntmps11
    go_wp2_with (first | (go_at_call 12; refine (law23_awake _).mono ?_; rintro e w' ⟨rfl, dA, rfl⟩) | (go_at_call 36; refine (HV.out _).mono ?_; rintro e w' ⟨rfl, dV, rfl⟩) | (go_at_call 22; refine (HF.out _).mono ?_; rintro e w' ⟨rfl, dF, rfl⟩) | (go_at_call 37; refine (HS1.out _).mono ?_; rintro e w' ⟨rfl, dS, rfl⟩))
    go_ret
    exact ⟨rfl, lay_ex _ _⟩
  rw [hF] at HF
  have HS1 := Lib.hid (HS.out (fracB_ok hF))
  clear HS
  cases hL : slpB n d
  · rw [hL] at HS1
    clear hB hF hL hk0 hs b2
    refine lay_start ?_
    go_enter Tryz.func11, Tryz.ntmps11
    go_wp2_with (first | (go_at_call 12; refine (law23_awake _).mono ?_; rintro e w' ⟨rfl, dA, rfl⟩) | (go_at_call 36; refine (HV.out _).mono ?_; rintro e w' ⟨rfl, dV, rfl⟩) | (go_at_call 22; refine (HF.out _).mono ?_; rintro e w' ⟨rfl, dF, rfl⟩) | (go_at_call 37; refine (HS1.out _).mono ?_; rintro e w' ⟨rfl, dS, rfl⟩))
    go_ret
    exact ⟨rfl, lay_ex _ _⟩
  rw [hL] at HS1
  obtain ⟨r, hr⟩ : ∃ r : Nat, k0 % 10 = (r : Int) := ⟨(k0 % 10).toNat, by omega⟩
  obtain ⟨m, hm⟩ : ∃ m : Nat, m = r + 1 := ⟨_, rfl⟩
  have hm2 : 1 ≤ m ∧ m ≤ 10 := by omega
  have kt : k0.tmod 10 = (r : Int) := by rw [Int.tmod_eq_emod_of_nonneg (by omega)]; exact hr
  have kw : IntKind.i64.wrap k0 = k0 := IntWalk.i64_in _ (by omega)
  have kr : IntKind.i64.wrap (r : Int) = (r : Int) := IntWalk.i64_in _ (by omega)
  have km : (1 : Int) + (r : Int) = (m : Int) := by omega
  have kmw : IntKind.i64.wrap ((r : Int) + 1) = (m : Int) := (IntWalk.i64_in _ (by omega)).trans (by omega)
  have HLW := Lib.hid (one_law (n := n) (d := d) hB b2 hm2.1 hm2.2 hF hL)
  have HIs := Lib.hid (sgB_iff.1 hB)
  have HOk := Lib.hid hs
  clear hB hF hL hk0 hs
  refine lay_start ?_
  go_enter Tryz.func11, Tryz.ntmps11
  go_wp2_with (first | (go_at_call 12; refine (law23_awake _).mono ?_; rintro e w' ⟨rfl, dA, rfl⟩) | (go_at_call 36; refine (HV.out _).mono ?_; rintro e w' ⟨rfl, dV, rfl⟩) | (go_at_call 22; refine (HF.out _).mono ?_; rintro e w' ⟨rfl, dF, rfl⟩) | (go_at_call 37; refine (HS1.out _).mono ?_; rintro e w' ⟨rfl, dS, rfl⟩))
  obtain ⟨d0, e0⟩ := lay_fold w [.inr dS, .inr dF, .inr dV, .inr dA] [.inl (.cells #[.int .i64 n, .int .i64 d] 35 (0, 0)), .inl (.cells #[.string s.body, .int .i64 s.limb, .int .i64 s.lo, .int .i64 s.hi, .int .i64 s.hs, .int .i64 s.wi, .int .i64 s.hz, .int .i64 s.ey, .int .i64 s.sh, .int .i64 s.te, .int .i64 s.pr] 68 (0, 0))]
  change lay w [.inr dS, .inr dF, .inr dV, .inr dA, .inl (.cells #[.int .i64 n, .int .i64 d] 35 (0, 0)), .inl (.cells #[.string s.body, .int .i64 s.limb, .int .i64 s.lo, .int .i64 s.hi, .int .i64 s.hs, .int .i64 s.wi, .int .i64 s.hz, .int .i64 s.ey, .int .i64 s.sh, .int .i64 s.te, .int .i64 s.pr] 68 (0, 0))] = lay w [.inr d0, .inl (.cells #[.int .i64 n, .int .i64 d] 35 (0, 0)), .inl (.cells #[.string s.body, .int .i64 s.limb, .int .i64 s.lo, .int .i64 s.hi, .int .i64 s.hs, .int .i64 s.wi, .int .i64 s.hz, .int .i64 s.ey, .int .i64 s.sh, .int .i64 s.te, .int .i64 s.pr] 68 (0, 0))] at e0
  rw [e0]
  clear e0
  obtain ⟨l1, l2, l3⟩ := HLW.out
  have HAS := Lib.hid (fun v W (q : SlG sgR W v (List.replicate m s)) => av_Sights v (List.replicate m s) n d 3 W q)
  rw [l1, l2, l3] at HAS
  clear HLW l1 l2 l3
  have HRp := Lib.hid (fun v W (q : SlG sgR W v [s]) => sg_Repeat s v m hm2.1 hm2.2 W q)
  rw [show (m : Int) = (r : Int) + 1 by omega] at HRp
  have hq1 := HIs.out.wi
  have kwi : IntKind.i64.wrap (s.wi + 1) = s.wi + 1 := IntWalk.i64_in _ (by omega)
  have hsv : ({ s with wi := s.wi + 1 } : SgV).val = .agg #[.string s.body, .int .i64 s.limb, .int .i64 s.lo, .int .i64 s.hi, .int .i64 s.hs, .int .i64 (s.wi + 1), .int .i64 s.hz, .int .i64 s.ey, .int .i64 s.sh, .int .i64 s.te, .int .i64 s.pr] := rfl
  unfold SgtP at HAS
  rw [hsv] at HAS
  have hlit : ∀ L, SlG sgR (lay w (.inl (.cells #[.string s.body, .int .i64 s.limb, .int .i64 s.lo, .int .i64 s.hi, .int .i64 s.hs, .int .i64 s.wi, .int .i64 s.hz, .int .i64 s.ey, .int .i64 s.sh, .int .i64 s.te, .int .i64 s.pr] 68 (0, 0)) :: L)) (.slice (some ⟨posn w (shp L), 0, none⟩) 1 1) [s] := fun L => (owG_lit sgROk (L := L) [s] rfl (Nat.le_of_ble_eq_true rfl) (fun x hx => by rw [List.mem_singleton.1 hx]; exact HOk.out)).sl sgROk
  have HLt := Lib.hid hlit
  clear hlit hsv hq1
  refine region_mixB 16 (.q 0 (.q 2 (.q 3 (.q 4 (.q 5 (.q 7 (.two 1 (.two 6 (.two 8 (.q 9 (.q 10 (.q 11 (.q 12 (.one 13 (.one 14 (.q 15 .done))))))) 13 (.one 8 (.q 9 (.q 10 (.q 11 (.q 12 (.one 14 (.q 15 .done)))))))) 13 (.one 6 (.one 8 (.q 9 (.q 10 (.q 11 (.q 12 (.one 14 (.q 15 .done))))))))) 13 (.one 1 (.one 6 (.one 8 (.q 9 (.q 10 (.q 11 (.q 12 (.one 14 (.q 15 .done)))))))))))))))) (by kernel_rfl) (by kernel_rfl) (by kernel_rfl) (by kernel_rfl) (by simp) (by kernel_rfl) ?_
  simp only [List.drop_succ_cons, List.drop_zero]
  repeat (refine wpMB_quiet rfl (fun K hK => ?_); go_simp; refine hK _ ?_; clear hK K)
  refine wpMB_two ?_ ?_
  · refine spB_of rfl (fun K hK e1 => ?_)
    go_simp
    refine hK _ _ (lay_in w [.inl (.cells #[.string s.body, .int .i64 s.limb, .int .i64 s.lo, .int .i64 s.hi, .int .i64 s.hs, .int .i64 s.wi, .int .i64 s.hz, .int .i64 s.ey, .int .i64 s.sh, .int .i64 s.te, .int .i64 s.pr] 68 (0, 0)), .inr e1] [.inr d0, .inl (.cells #[.int .i64 n, .int .i64 d] 35 (0, 0)), .inl (.cells #[.string s.body, .int .i64 s.limb, .int .i64 s.lo, .int .i64 s.hi, .int .i64 s.hs, .int .i64 s.wi, .int .i64 s.hz, .int .i64 s.ey, .int .i64 s.sh, .int .i64 s.te, .int .i64 s.pr] 68 (0, 0))]) ?_
    clear hK K
    refine wpMB_two ?_ ?_
    · refine spB_of rfl (fun K hK e2 => ?_)
      go_simp
      refine (HRp.out _ _ (slG_on (w := w) (A := [.inr e2]) (B := [.inl (.cells #[.string s.body, .int .i64 s.limb, .int .i64 s.lo, .int .i64 s.hi, .int .i64 s.hs, .int .i64 s.wi, .int .i64 s.hz, .int .i64 s.ey, .int .i64 s.sh, .int .i64 s.te, .int .i64 s.pr] 68 (0, 0)), .inr e1, .inr d0, .inl (.cells #[.int .i64 n, .int .i64 d] 35 (0, 0)), .inl (.cells #[.string s.body, .int .i64 s.limb, .int .i64 s.lo, .int .i64 s.hi, .int .i64 s.hs, .int .i64 s.wi, .int .i64 s.hz, .int .i64 s.ey, .int .i64 s.sh, .int .i64 s.te, .int .i64 s.pr] 68 (0, 0))]) (HLt.out [.inr e1, .inr d0, .inl (.cells #[.int .i64 n, .int .i64 d] 35 (0, 0)), .inl (.cells #[.string s.body, .int .i64 s.limb, .int .i64 s.lo, .int .i64 s.hi, .int .i64 s.hs, .int .i64 s.wi, .int .i64 s.hz, .int .i64 s.ey, .int .i64 s.sh, .int .i64 s.te, .int .i64 s.pr] 68 (0, 0))]))).mono ?_
      rintro e w' ⟨vR, dR, rfl, rfl, hR⟩
      rw [lay_bw] at hR ⊢
      have HR := Lib.hid hR
      clear hR
      refine ⟨_, rfl, hK _ _ (lay_in w [.inr dR, .inr e2, .inl (.cells #[.string s.body, .int .i64 s.limb, .int .i64 s.lo, .int .i64 s.hi, .int .i64 s.hs, .int .i64 s.wi, .int .i64 s.hz, .int .i64 s.ey, .int .i64 s.sh, .int .i64 s.te, .int .i64 s.pr] 68 (0, 0)), .inr e1] [.inr d0, .inl (.cells #[.int .i64 n, .int .i64 d] 35 (0, 0)), .inl (.cells #[.string s.body, .int .i64 s.limb, .int .i64 s.lo, .int .i64 s.hi, .int .i64 s.hs, .int .i64 s.wi, .int .i64 s.hz, .int .i64 s.ey, .int .i64 s.sh, .int .i64 s.te, .int .i64 s.pr] 68 (0, 0))]) ?_⟩
      clear hK K
      refine wpMB_two ?_ ?_
      · refine spB_of rfl (fun K hK e3 => ?_)
        go_simp
        refine (HAS.out _ _ (slG_on (w := w) (A := [.inr e3]) (B := [.inr dR, .inr e2, .inl (.cells #[.string s.body, .int .i64 s.limb, .int .i64 s.lo, .int .i64 s.hi, .int .i64 s.hs, .int .i64 s.wi, .int .i64 s.hz, .int .i64 s.ey, .int .i64 s.sh, .int .i64 s.te, .int .i64 s.pr] 68 (0, 0)), .inr e1, .inr d0, .inl (.cells #[.int .i64 n, .int .i64 d] 35 (0, 0)), .inl (.cells #[.string s.body, .int .i64 s.limb, .int .i64 s.lo, .int .i64 s.hi, .int .i64 s.hs, .int .i64 s.wi, .int .i64 s.hz, .int .i64 s.ey, .int .i64 s.sh, .int .i64 s.te, .int .i64 s.pr] 68 (0, 0))]) HR.out)).mono ?_
        rintro e w' ⟨vQ, dQ, rfl, rfl, hQ⟩
        obtain ⟨aQ, cQ, rfl⟩ := hQ.form
        clear hQ
        rw [lay_bw]
        refine ⟨_, rfl, hK _ _ (lay_in w [.inr dQ, .inr e3, .inr dR, .inr e2, .inl (.cells #[.string s.body, .int .i64 s.limb, .int .i64 s.lo, .int .i64 s.hi, .int .i64 s.hs, .int .i64 s.wi, .int .i64 s.hz, .int .i64 s.ey, .int .i64 s.sh, .int .i64 s.te, .int .i64 s.pr] 68 (0, 0)), .inr e1] [.inr d0, .inl (.cells #[.int .i64 n, .int .i64 d] 35 (0, 0)), .inl (.cells #[.string s.body, .int .i64 s.limb, .int .i64 s.lo, .int .i64 s.hi, .int .i64 s.hs, .int .i64 s.wi, .int .i64 s.hz, .int .i64 s.ey, .int .i64 s.sh, .int .i64 s.te, .int .i64 s.pr] 68 (0, 0))]) ?_⟩
        clear hK K
        repeat (refine wpMB_quiet rfl (fun K hK => ?_); go_simp; refine hK _ ?_; clear hK K)
        refine wpMB_one ?_
        refine spB_of rfl (fun K hK e4 => ?_)
        go_simp
        refine hK _ _ (lay_in w [.inl (.cells #[.string ⟨#[]⟩, .int .i64 0, .int .i64 0, .int .i64 0, .int .i64 0, .int .i64 0, .int .i64 0, .int .i64 0, .int .i64 0, .int .i64 0, .int .i64 0] 68 (0, 0)), .inr e4, .inr dQ, .inr e3, .inr dR, .inr e2, .inl (.cells #[.string s.body, .int .i64 s.limb, .int .i64 s.lo, .int .i64 s.hi, .int .i64 s.hs, .int .i64 s.wi, .int .i64 s.hz, .int .i64 s.ey, .int .i64 s.sh, .int .i64 s.te, .int .i64 s.pr] 68 (0, 0)), .inr e1] [.inr d0, .inl (.cells #[.int .i64 n, .int .i64 d] 35 (0, 0)), .inl (.cells #[.string s.body, .int .i64 s.limb, .int .i64 s.lo, .int .i64 s.hi, .int .i64 s.hs, .int .i64 s.wi, .int .i64 s.hz, .int .i64 s.ey, .int .i64 s.sh, .int .i64 s.te, .int .i64 s.pr] 68 (0, 0))]) ?_
        clear hK K
        refine wpMB_one ?_
        refine spB_of rfl (fun K hK e5 => ?_)
        go_simp
        refine hK _ _ (lay_in w [.inr e5, .inl (.cells #[.string s.body, .int .i64 s.limb, .int .i64 s.lo, .int .i64 s.hi, .int .i64 s.hs, .int .i64 (s.wi + 1), .int .i64 s.hz, .int .i64 s.ey, .int .i64 s.sh, .int .i64 s.te, .int .i64 s.pr] 68 (0, 0)), .inr e4, .inr dQ, .inr e3, .inr dR, .inr e2, .inl (.cells #[.string s.body, .int .i64 s.limb, .int .i64 s.lo, .int .i64 s.hi, .int .i64 s.hs, .int .i64 s.wi, .int .i64 s.hz, .int .i64 s.ey, .int .i64 s.sh, .int .i64 s.te, .int .i64 s.pr] 68 (0, 0)), .inr e1] [.inr d0, .inl (.cells #[.int .i64 n, .int .i64 d] 35 (0, 0)), .inl (.cells #[.string s.body, .int .i64 s.limb, .int .i64 s.lo, .int .i64 s.hi, .int .i64 s.hs, .int .i64 s.wi, .int .i64 s.hz, .int .i64 s.ey, .int .i64 s.sh, .int .i64 s.te, .int .i64 s.pr] 68 (0, 0))]) ?_
        clear hK K
        repeat (refine wpMB_quiet rfl (fun K hK => ?_); go_simp; refine hK _ ?_; clear hK K)
        refine wpMB_done (fun dz => ?_)
        show wpList _ _ _ _ _ _
        rw [lay_bw]
        go_wp2_with fail
        go_ret
        exact ⟨rfl, lay_ex _ _⟩
      · refine spB_of rfl (fun K hK e3 => ?_)
        go_simp
        refine hK _ _ (lay_in w [.inl (.cells #[.string ⟨#[]⟩, .int .i64 0, .int .i64 0, .int .i64 0, .int .i64 0, .int .i64 0, .int .i64 0, .int .i64 0, .int .i64 0, .int .i64 0, .int .i64 0] 68 (0, 0)), .inr e3, .inr dR, .inr e2, .inl (.cells #[.string s.body, .int .i64 s.limb, .int .i64 s.lo, .int .i64 s.hi, .int .i64 s.hs, .int .i64 s.wi, .int .i64 s.hz, .int .i64 s.ey, .int .i64 s.sh, .int .i64 s.te, .int .i64 s.pr] 68 (0, 0)), .inr e1] [.inr d0, .inl (.cells #[.int .i64 n, .int .i64 d] 35 (0, 0)), .inl (.cells #[.string s.body, .int .i64 s.limb, .int .i64 s.lo, .int .i64 s.hi, .int .i64 s.hs, .int .i64 s.wi, .int .i64 s.hz, .int .i64 s.ey, .int .i64 s.sh, .int .i64 s.te, .int .i64 s.pr] 68 (0, 0))]) ?_
        clear hK K
        refine wpMB_one ?_
        refine spB_of rfl (fun K hK e4 => ?_)
        go_simp
        refine (HAS.out _ _ (slG_on (w := w) (A := [.inr e4, .inl (.cells #[.string ⟨#[]⟩, .int .i64 0, .int .i64 0, .int .i64 0, .int .i64 0, .int .i64 0, .int .i64 0, .int .i64 0, .int .i64 0, .int .i64 0, .int .i64 0] 68 (0, 0)), .inr e3]) (B := [.inr dR, .inr e2, .inl (.cells #[.string s.body, .int .i64 s.limb, .int .i64 s.lo, .int .i64 s.hi, .int .i64 s.hs, .int .i64 s.wi, .int .i64 s.hz, .int .i64 s.ey, .int .i64 s.sh, .int .i64 s.te, .int .i64 s.pr] 68 (0, 0)), .inr e1, .inr d0, .inl (.cells #[.int .i64 n, .int .i64 d] 35 (0, 0)), .inl (.cells #[.string s.body, .int .i64 s.limb, .int .i64 s.lo, .int .i64 s.hi, .int .i64 s.hs, .int .i64 s.wi, .int .i64 s.hz, .int .i64 s.ey, .int .i64 s.sh, .int .i64 s.te, .int .i64 s.pr] 68 (0, 0))]) HR.out)).mono ?_
        rintro e w' ⟨vQ, dQ, rfl, rfl, hQ⟩
        obtain ⟨aQ, cQ, rfl⟩ := hQ.form
        clear hQ
        rw [lay_bw]
        refine ⟨_, rfl, hK _ _ (lay_in w [.inr dQ, .inr e4, .inl (.cells #[.string ⟨#[]⟩, .int .i64 0, .int .i64 0, .int .i64 0, .int .i64 0, .int .i64 0, .int .i64 0, .int .i64 0, .int .i64 0, .int .i64 0, .int .i64 0] 68 (0, 0)), .inr e3, .inr dR, .inr e2, .inl (.cells #[.string s.body, .int .i64 s.limb, .int .i64 s.lo, .int .i64 s.hi, .int .i64 s.hs, .int .i64 s.wi, .int .i64 s.hz, .int .i64 s.ey, .int .i64 s.sh, .int .i64 s.te, .int .i64 s.pr] 68 (0, 0)), .inr e1] [.inr d0, .inl (.cells #[.int .i64 n, .int .i64 d] 35 (0, 0)), .inl (.cells #[.string s.body, .int .i64 s.limb, .int .i64 s.lo, .int .i64 s.hi, .int .i64 s.hs, .int .i64 s.wi, .int .i64 s.hz, .int .i64 s.ey, .int .i64 s.sh, .int .i64 s.te, .int .i64 s.pr] 68 (0, 0))]) ?_⟩
        clear hK K
        repeat (refine wpMB_quiet rfl (fun K hK => ?_); go_simp; refine hK _ ?_; clear hK K)
        refine wpMB_one ?_
        refine spB_of rfl (fun K hK e5 => ?_)
        go_simp
        refine hK _ _ (lay_in w [.inr e5, .inr dQ, .inr e4, .inl (.cells #[.string s.body, .int .i64 s.limb, .int .i64 s.lo, .int .i64 s.hi, .int .i64 s.hs, .int .i64 (s.wi + 1), .int .i64 s.hz, .int .i64 s.ey, .int .i64 s.sh, .int .i64 s.te, .int .i64 s.pr] 68 (0, 0)), .inr e3, .inr dR, .inr e2, .inl (.cells #[.string s.body, .int .i64 s.limb, .int .i64 s.lo, .int .i64 s.hi, .int .i64 s.hs, .int .i64 s.wi, .int .i64 s.hz, .int .i64 s.ey, .int .i64 s.sh, .int .i64 s.te, .int .i64 s.pr] 68 (0, 0)), .inr e1] [.inr d0, .inl (.cells #[.int .i64 n, .int .i64 d] 35 (0, 0)), .inl (.cells #[.string s.body, .int .i64 s.limb, .int .i64 s.lo, .int .i64 s.hi, .int .i64 s.hs, .int .i64 s.wi, .int .i64 s.hz, .int .i64 s.ey, .int .i64 s.sh, .int .i64 s.te, .int .i64 s.pr] 68 (0, 0))]) ?_
        clear hK K
        repeat (refine wpMB_quiet rfl (fun K hK => ?_); go_simp; refine hK _ ?_; clear hK K)
        refine wpMB_done (fun dz => ?_)
        show wpList _ _ _ _ _ _
        rw [lay_bw]
        go_wp2_with fail
        go_ret
        exact ⟨rfl, lay_ex _ _⟩
    · refine spB_of rfl (fun K hK e2 => ?_)
      go_simp
      refine hK _ _ (lay_in w [.inl (.cells #[.string ⟨#[]⟩, .int .i64 0, .int .i64 0, .int .i64 0, .int .i64 0, .int .i64 0, .int .i64 0, .int .i64 0, .int .i64 0, .int .i64 0, .int .i64 0] 68 (0, 0)), .inr e2, .inl (.cells #[.string s.body, .int .i64 s.limb, .int .i64 s.lo, .int .i64 s.hi, .int .i64 s.hs, .int .i64 s.wi, .int .i64 s.hz, .int .i64 s.ey, .int .i64 s.sh, .int .i64 s.te, .int .i64 s.pr] 68 (0, 0)), .inr e1] [.inr d0, .inl (.cells #[.int .i64 n, .int .i64 d] 35 (0, 0)), .inl (.cells #[.string s.body, .int .i64 s.limb, .int .i64 s.lo, .int .i64 s.hi, .int .i64 s.hs, .int .i64 s.wi, .int .i64 s.hz, .int .i64 s.ey, .int .i64 s.sh, .int .i64 s.te, .int .i64 s.pr] 68 (0, 0))]) ?_
      clear hK K
      refine wpMB_one ?_
      refine spB_of rfl (fun K hK e3 => ?_)
      go_simp
      refine (HRp.out _ _ (slG_on (w := w) (A := [.inr e3, .inl (.cells #[.string ⟨#[]⟩, .int .i64 0, .int .i64 0, .int .i64 0, .int .i64 0, .int .i64 0, .int .i64 0, .int .i64 0, .int .i64 0, .int .i64 0, .int .i64 0] 68 (0, 0)), .inr e2]) (B := [.inl (.cells #[.string s.body, .int .i64 s.limb, .int .i64 s.lo, .int .i64 s.hi, .int .i64 s.hs, .int .i64 s.wi, .int .i64 s.hz, .int .i64 s.ey, .int .i64 s.sh, .int .i64 s.te, .int .i64 s.pr] 68 (0, 0)), .inr e1, .inr d0, .inl (.cells #[.int .i64 n, .int .i64 d] 35 (0, 0)), .inl (.cells #[.string s.body, .int .i64 s.limb, .int .i64 s.lo, .int .i64 s.hi, .int .i64 s.hs, .int .i64 s.wi, .int .i64 s.hz, .int .i64 s.ey, .int .i64 s.sh, .int .i64 s.te, .int .i64 s.pr] 68 (0, 0))]) (HLt.out [.inr e1, .inr d0, .inl (.cells #[.int .i64 n, .int .i64 d] 35 (0, 0)), .inl (.cells #[.string s.body, .int .i64 s.limb, .int .i64 s.lo, .int .i64 s.hi, .int .i64 s.hs, .int .i64 s.wi, .int .i64 s.hz, .int .i64 s.ey, .int .i64 s.sh, .int .i64 s.te, .int .i64 s.pr] 68 (0, 0))]))).mono ?_
      rintro e w' ⟨vR, dR, rfl, rfl, hR⟩
      rw [lay_bw] at hR ⊢
      have HR := Lib.hid hR
      clear hR
      refine ⟨_, rfl, hK _ _ (lay_in w [.inr dR, .inr e3, .inl (.cells #[.string ⟨#[]⟩, .int .i64 0, .int .i64 0, .int .i64 0, .int .i64 0, .int .i64 0, .int .i64 0, .int .i64 0, .int .i64 0, .int .i64 0, .int .i64 0] 68 (0, 0)), .inr e2, .inl (.cells #[.string s.body, .int .i64 s.limb, .int .i64 s.lo, .int .i64 s.hi, .int .i64 s.hs, .int .i64 s.wi, .int .i64 s.hz, .int .i64 s.ey, .int .i64 s.sh, .int .i64 s.te, .int .i64 s.pr] 68 (0, 0)), .inr e1] [.inr d0, .inl (.cells #[.int .i64 n, .int .i64 d] 35 (0, 0)), .inl (.cells #[.string s.body, .int .i64 s.limb, .int .i64 s.lo, .int .i64 s.hi, .int .i64 s.hs, .int .i64 s.wi, .int .i64 s.hz, .int .i64 s.ey, .int .i64 s.sh, .int .i64 s.te, .int .i64 s.pr] 68 (0, 0))]) ?_⟩
      clear hK K
      refine wpMB_one ?_
      refine spB_of rfl (fun K hK e4 => ?_)
      go_simp
      refine (HAS.out _ _ (slG_on (w := w) (A := [.inr e4]) (B := [.inr dR, .inr e3, .inl (.cells #[.string ⟨#[]⟩, .int .i64 0, .int .i64 0, .int .i64 0, .int .i64 0, .int .i64 0, .int .i64 0, .int .i64 0, .int .i64 0, .int .i64 0, .int .i64 0] 68 (0, 0)), .inr e2, .inl (.cells #[.string s.body, .int .i64 s.limb, .int .i64 s.lo, .int .i64 s.hi, .int .i64 s.hs, .int .i64 s.wi, .int .i64 s.hz, .int .i64 s.ey, .int .i64 s.sh, .int .i64 s.te, .int .i64 s.pr] 68 (0, 0)), .inr e1, .inr d0, .inl (.cells #[.int .i64 n, .int .i64 d] 35 (0, 0)), .inl (.cells #[.string s.body, .int .i64 s.limb, .int .i64 s.lo, .int .i64 s.hi, .int .i64 s.hs, .int .i64 s.wi, .int .i64 s.hz, .int .i64 s.ey, .int .i64 s.sh, .int .i64 s.te, .int .i64 s.pr] 68 (0, 0))]) HR.out)).mono ?_
      rintro e w' ⟨vQ, dQ, rfl, rfl, hQ⟩
      obtain ⟨aQ, cQ, rfl⟩ := hQ.form
      clear hQ
      rw [lay_bw]
      refine ⟨_, rfl, hK _ _ (lay_in w [.inr dQ, .inr e4, .inr dR, .inr e3, .inl (.cells #[.string ⟨#[]⟩, .int .i64 0, .int .i64 0, .int .i64 0, .int .i64 0, .int .i64 0, .int .i64 0, .int .i64 0, .int .i64 0, .int .i64 0, .int .i64 0] 68 (0, 0)), .inr e2, .inl (.cells #[.string s.body, .int .i64 s.limb, .int .i64 s.lo, .int .i64 s.hi, .int .i64 s.hs, .int .i64 s.wi, .int .i64 s.hz, .int .i64 s.ey, .int .i64 s.sh, .int .i64 s.te, .int .i64 s.pr] 68 (0, 0)), .inr e1] [.inr d0, .inl (.cells #[.int .i64 n, .int .i64 d] 35 (0, 0)), .inl (.cells #[.string s.body, .int .i64 s.limb, .int .i64 s.lo, .int .i64 s.hi, .int .i64 s.hs, .int .i64 s.wi, .int .i64 s.hz, .int .i64 s.ey, .int .i64 s.sh, .int .i64 s.te, .int .i64 s.pr] 68 (0, 0))]) ?_⟩
      clear hK K
      repeat (refine wpMB_quiet rfl (fun K hK => ?_); go_simp; refine hK _ ?_; clear hK K)
      refine wpMB_one ?_
      refine spB_of rfl (fun K hK e5 => ?_)
      go_simp
      refine hK _ _ (lay_in w [.inr e5, .inr dQ, .inr e4, .inr dR, .inr e3, .inl (.cells #[.string s.body, .int .i64 s.limb, .int .i64 s.lo, .int .i64 s.hi, .int .i64 s.hs, .int .i64 (s.wi + 1), .int .i64 s.hz, .int .i64 s.ey, .int .i64 s.sh, .int .i64 s.te, .int .i64 s.pr] 68 (0, 0)), .inr e2, .inl (.cells #[.string s.body, .int .i64 s.limb, .int .i64 s.lo, .int .i64 s.hi, .int .i64 s.hs, .int .i64 s.wi, .int .i64 s.hz, .int .i64 s.ey, .int .i64 s.sh, .int .i64 s.te, .int .i64 s.pr] 68 (0, 0)), .inr e1] [.inr d0, .inl (.cells #[.int .i64 n, .int .i64 d] 35 (0, 0)), .inl (.cells #[.string s.body, .int .i64 s.limb, .int .i64 s.lo, .int .i64 s.hi, .int .i64 s.hs, .int .i64 s.wi, .int .i64 s.hz, .int .i64 s.ey, .int .i64 s.sh, .int .i64 s.te, .int .i64 s.pr] 68 (0, 0))]) ?_
      clear hK K
      repeat (refine wpMB_quiet rfl (fun K hK => ?_); go_simp; refine hK _ ?_; clear hK K)
      refine wpMB_done (fun dz => ?_)
      show wpList _ _ _ _ _ _
      rw [lay_bw]
      go_wp2_with fail
      go_ret
      exact ⟨rfl, lay_ex _ _⟩
  · refine spB_of rfl (fun K hK e1 => ?_)
    go_simp
    refine hK _ _ (lay_in w [.inl (.cells #[.string ⟨#[]⟩, .int .i64 0, .int .i64 0, .int .i64 0, .int .i64 0, .int .i64 0, .int .i64 0, .int .i64 0, .int .i64 0, .int .i64 0, .int .i64 0] 68 (0, 0)), .inr e1] [.inr d0, .inl (.cells #[.int .i64 n, .int .i64 d] 35 (0, 0)), .inl (.cells #[.string s.body, .int .i64 s.limb, .int .i64 s.lo, .int .i64 s.hi, .int .i64 s.hs, .int .i64 s.wi, .int .i64 s.hz, .int .i64 s.ey, .int .i64 s.sh, .int .i64 s.te, .int .i64 s.pr] 68 (0, 0))]) ?_
    clear hK K
    refine wpMB_one ?_
    refine spB_of rfl (fun K hK e2 => ?_)
    go_simp
    refine hK _ _ (lay_in w [.inl (.cells #[.string s.body, .int .i64 s.limb, .int .i64 s.lo, .int .i64 s.hi, .int .i64 s.hs, .int .i64 s.wi, .int .i64 s.hz, .int .i64 s.ey, .int .i64 s.sh, .int .i64 s.te, .int .i64 s.pr] 68 (0, 0)), .inr e2, .inl (.cells #[.string ⟨#[]⟩, .int .i64 0, .int .i64 0, .int .i64 0, .int .i64 0, .int .i64 0, .int .i64 0, .int .i64 0, .int .i64 0, .int .i64 0, .int .i64 0] 68 (0, 0)), .inr e1] [.inr d0, .inl (.cells #[.int .i64 n, .int .i64 d] 35 (0, 0)), .inl (.cells #[.string s.body, .int .i64 s.limb, .int .i64 s.lo, .int .i64 s.hi, .int .i64 s.hs, .int .i64 s.wi, .int .i64 s.hz, .int .i64 s.ey, .int .i64 s.sh, .int .i64 s.te, .int .i64 s.pr] 68 (0, 0))]) ?_
    clear hK K
    refine wpMB_one ?_
    refine spB_of rfl (fun K hK e3 => ?_)
    go_simp
    refine (HRp.out _ _ (slG_on (w := w) (A := [.inr e3]) (B := [.inl (.cells #[.string s.body, .int .i64 s.limb, .int .i64 s.lo, .int .i64 s.hi, .int .i64 s.hs, .int .i64 s.wi, .int .i64 s.hz, .int .i64 s.ey, .int .i64 s.sh, .int .i64 s.te, .int .i64 s.pr] 68 (0, 0)), .inr e2, .inl (.cells #[.string ⟨#[]⟩, .int .i64 0, .int .i64 0, .int .i64 0, .int .i64 0, .int .i64 0, .int .i64 0, .int .i64 0, .int .i64 0, .int .i64 0, .int .i64 0] 68 (0, 0)), .inr e1, .inr d0, .inl (.cells #[.int .i64 n, .int .i64 d] 35 (0, 0)), .inl (.cells #[.string s.body, .int .i64 s.limb, .int .i64 s.lo, .int .i64 s.hi, .int .i64 s.hs, .int .i64 s.wi, .int .i64 s.hz, .int .i64 s.ey, .int .i64 s.sh, .int .i64 s.te, .int .i64 s.pr] 68 (0, 0))]) (HLt.out [.inr e2, .inl (.cells #[.string ⟨#[]⟩, .int .i64 0, .int .i64 0, .int .i64 0, .int .i64 0, .int .i64 0, .int .i64 0, .int .i64 0, .int .i64 0, .int .i64 0, .int .i64 0] 68 (0, 0)), .inr e1, .inr d0, .inl (.cells #[.int .i64 n, .int .i64 d] 35 (0, 0)), .inl (.cells #[.string s.body, .int .i64 s.limb, .int .i64 s.lo, .int .i64 s.hi, .int .i64 s.hs, .int .i64 s.wi, .int .i64 s.hz, .int .i64 s.ey, .int .i64 s.sh, .int .i64 s.te, .int .i64 s.pr] 68 (0, 0))]))).mono ?_
    rintro e w' ⟨vR, dR, rfl, rfl, hR⟩
    rw [lay_bw] at hR ⊢
    have HR := Lib.hid hR
    clear hR
    refine ⟨_, rfl, hK _ _ (lay_in w [.inr dR, .inr e3, .inl (.cells #[.string s.body, .int .i64 s.limb, .int .i64 s.lo, .int .i64 s.hi, .int .i64 s.hs, .int .i64 s.wi, .int .i64 s.hz, .int .i64 s.ey, .int .i64 s.sh, .int .i64 s.te, .int .i64 s.pr] 68 (0, 0)), .inr e2, .inl (.cells #[.string ⟨#[]⟩, .int .i64 0, .int .i64 0, .int .i64 0, .int .i64 0, .int .i64 0, .int .i64 0, .int .i64 0, .int .i64 0, .int .i64 0, .int .i64 0] 68 (0, 0)), .inr e1] [.inr d0, .inl (.cells #[.int .i64 n, .int .i64 d] 35 (0, 0)), .inl (.cells #[.string s.body, .int .i64 s.limb, .int .i64 s.lo, .int .i64 s.hi, .int .i64 s.hs, .int .i64 s.wi, .int .i64 s.hz, .int .i64 s.ey, .int .i64 s.sh, .int .i64 s.te, .int .i64 s.pr] 68 (0, 0))]) ?_⟩
    clear hK K
    refine wpMB_one ?_
    refine spB_of rfl (fun K hK e4 => ?_)
    go_simp
    refine (HAS.out _ _ (slG_on (w := w) (A := [.inr e4]) (B := [.inr dR, .inr e3, .inl (.cells #[.string s.body, .int .i64 s.limb, .int .i64 s.lo, .int .i64 s.hi, .int .i64 s.hs, .int .i64 s.wi, .int .i64 s.hz, .int .i64 s.ey, .int .i64 s.sh, .int .i64 s.te, .int .i64 s.pr] 68 (0, 0)), .inr e2, .inl (.cells #[.string ⟨#[]⟩, .int .i64 0, .int .i64 0, .int .i64 0, .int .i64 0, .int .i64 0, .int .i64 0, .int .i64 0, .int .i64 0, .int .i64 0, .int .i64 0] 68 (0, 0)), .inr e1, .inr d0, .inl (.cells #[.int .i64 n, .int .i64 d] 35 (0, 0)), .inl (.cells #[.string s.body, .int .i64 s.limb, .int .i64 s.lo, .int .i64 s.hi, .int .i64 s.hs, .int .i64 s.wi, .int .i64 s.hz, .int .i64 s.ey, .int .i64 s.sh, .int .i64 s.te, .int .i64 s.pr] 68 (0, 0))]) HR.out)).mono ?_
    rintro e w' ⟨vQ, dQ, rfl, rfl, hQ⟩
    obtain ⟨aQ, cQ, rfl⟩ := hQ.form
    clear hQ
    rw [lay_bw]
    refine ⟨_, rfl, hK _ _ (lay_in w [.inr dQ, .inr e4, .inr dR, .inr e3, .inl (.cells #[.string s.body, .int .i64 s.limb, .int .i64 s.lo, .int .i64 s.hi, .int .i64 s.hs, .int .i64 s.wi, .int .i64 s.hz, .int .i64 s.ey, .int .i64 s.sh, .int .i64 s.te, .int .i64 s.pr] 68 (0, 0)), .inr e2, .inl (.cells #[.string ⟨#[]⟩, .int .i64 0, .int .i64 0, .int .i64 0, .int .i64 0, .int .i64 0, .int .i64 0, .int .i64 0, .int .i64 0, .int .i64 0, .int .i64 0] 68 (0, 0)), .inr e1] [.inr d0, .inl (.cells #[.int .i64 n, .int .i64 d] 35 (0, 0)), .inl (.cells #[.string s.body, .int .i64 s.limb, .int .i64 s.lo, .int .i64 s.hi, .int .i64 s.hs, .int .i64 s.wi, .int .i64 s.hz, .int .i64 s.ey, .int .i64 s.sh, .int .i64 s.te, .int .i64 s.pr] 68 (0, 0))]) ?_⟩
    clear hK K
    repeat (refine wpMB_quiet rfl (fun K hK => ?_); go_simp; refine hK _ ?_; clear hK K)
    refine wpMB_one ?_
    refine spB_of rfl (fun K hK e5 => ?_)
    go_simp
    refine hK _ _ (lay_in w [.inr e5, .inr dQ, .inr e4, .inr dR, .inr e3, .inl (.cells #[.string s.body, .int .i64 s.limb, .int .i64 s.lo, .int .i64 s.hi, .int .i64 s.hs, .int .i64 s.wi, .int .i64 s.hz, .int .i64 s.ey, .int .i64 s.sh, .int .i64 s.te, .int .i64 s.pr] 68 (0, 0)), .inr e2, .inl (.cells #[.string s.body, .int .i64 s.limb, .int .i64 s.lo, .int .i64 s.hi, .int .i64 s.hs, .int .i64 (s.wi + 1), .int .i64 s.hz, .int .i64 s.ey, .int .i64 s.sh, .int .i64 s.te, .int .i64 s.pr] 68 (0, 0)), .inr e1] [.inr d0, .inl (.cells #[.int .i64 n, .int .i64 d] 35 (0, 0)), .inl (.cells #[.string s.body, .int .i64 s.limb, .int .i64 s.lo, .int .i64 s.hi, .int .i64 s.hs, .int .i64 s.wi, .int .i64 s.hz, .int .i64 s.ey, .int .i64 s.sh, .int .i64 s.te, .int .i64 s.pr] 68 (0, 0))]) ?_
    clear hK K
    repeat (refine wpMB_quiet rfl (fun K hK => ?_); go_simp; refine hK _ ?_; clear hK K)
    refine wpMB_done (fun dz => ?_)
    show wpList _ _ _ _ _ _
    rw [lay_bw]
    go_wp2_with fail
    go_ret
    exact ⟨rfl, lay_ex _ _⟩
end Go.Proofs.YtejmgdpgngjiiaaGreat
