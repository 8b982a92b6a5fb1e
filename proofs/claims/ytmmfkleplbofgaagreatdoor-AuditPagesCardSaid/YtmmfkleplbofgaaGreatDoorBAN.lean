/- Contracts and plain laws, several texts in one: Re5 -/
import Derived.Test.YtmmfkleplbofgaaGreatDoorProg
import Derived.WalkKit
import Derived.WalkSpells
import Derived.WalkLawsBesides
import Derived.Lib.Hide
import Derived.BigQuiet
import Derived.Deep.RegionWith
import Derived.Test.YtmmfkleplbofgaaGreatDoorBAA
import Derived.Test.YtmmfkleplbofgaaGreatDoorBAB
import Derived.Test.YtmmfkleplbofgaaGreatDoorBAM
/- The reference's tries between the ends; all ways together. -/
namespace Go.Proofs.YtmmfkleplbofgaaGreatDoor
open Go.RowKit

theorem half_any {x : Int} (h : -4000000 ≤ x ∧ x ≤ 4000000) : -4000000 ≤ x.tdiv 2 ∧ x.tdiv 2 ≤ 4000000 := by
  have e := Int.tmod_add_mul_tdiv x 2
  have t1 := Int.tmod_lt_of_pos x (show (0 : Int) < 2 by decide)
  have t2 : -2 < x.tmod 2 := Int.lt_tmod_of_pos _ (by decide)
  omega
set_option maxHeartbeats 1000000 in
set_option maxRecDepth 100000 in
theorem re_triesC (v : Value) (l : List Int) (wr : Bool) (bend : Int) (k : Nat) (w : World) (hs : Sl w v l) (hg : Giv wr l) (b0 : 0 ≤ bend) (b1 : bend ≤ 1000) (hk : k + 2 < l.length) :
    Calls Tryz.prog 86 #[v, .int .i64 bend, .int .i64 ((k : Int) + 1), .bool wr] w (Rw w (triesL wr l bend (k + 1))) := by
  have hn := hg.n1000
  have p1 := perm_bd (hg.perm k (by omega))
  have p2 := perm_bd (hg.perm (k + 2) hk)
  have sb := frm_bd (hg.perm (k + 2) hk) (hg.perm k (by omega))
  have H1 := Lib.hid (fun W => re_step (nth l k) (nth l (k + 2)) wr W (by omega) (by omega))
  have hK : tryK wr l (k + 1) = tryC wr l (k + 1) := by funext d; unfold tryK; rw [if_neg (by omega), if_neg (by omega)]
  have hKe : ∀ d, tryC wr l (k + 1) d = (if (frm wr (nth l (k + 2) - nth l k) - d).tmod 2 = 0 then [nth l k + (frm wr (nth l (k + 2) - nth l k) - d).tdiv 2] else []) ++
      (if wr = true ∧ (frm wr (nth l (k + 2) - nth l k) + 216000 - d).tmod 2 = 0 then [nth l k + (frm wr (nth l (k + 2) - nth l k) + 216000 - d).tdiv 2] else []) := fun d => rfl
  have hKl := fun d => tryK_len wr l (k + 1) d
  unfold triesL
  rw [hK] at hKl ⊢
  have HTL := Lib.hid (tryL_len (tryC wr l (k + 1)) hKl (-(bend + 2)))
  obtain ⟨b, o, cap, rfl, hc, -, hb, hr⟩ := hs.open (by omega)
  have k1 := hr k (by omega)
  have k2 := hr (k + 2) hk
  obtain ⟨m, hm⟩ : ∃ m, l.length = m := ⟨_, rfl⟩
  obtain ⟨B, hB⟩ : ∃ B, bend + 2 = B := ⟨_, rfl⟩
  obtain ⟨cnt, hcnt⟩ : ∃ cnt, cntM bend = cnt := ⟨_, rfl⟩
  have hc2 : (cnt : Int) = 2 * B + 1 := by rw [← hcnt]; unfold cntM; omega
  have wB : IntKind.i64.wrap (bend + 2) = B := by rw [IntWalk.i64_in _ (by omega)]; exact hB
  rw [hB, hcnt]
  rw [hB] at HTL
  rw [hm] at hk hn hc ⊢
  have wN : IntKind.i64.wrap (-B) = -B := IntWalk.i64_in _ (by omega)
  have n1 : IntKind.i64.wrap ((m : Int) - 1) = (m : Int) - 1 := IntWalk.i64_in _ (by omega)
  have n2 : IntKind.i64.wrap ((k : Int) + 1 + 1) = (k : Int) + 2 := by rw [IntWalk.i64_in _ (by omega)]; omega
  have n4 : IntKind.i64.wrap (k : Int) = (k : Int) := IntWalk.i64_in _ (by omega)
  have n5 : ((k : Int) + 1 == 0) = false := beq_eq_false_iff_ne.2 (by omega)
  have n5' : ((k : Int) + 1 == (m : Int) - 1) = false := beq_eq_false_iff_ne.2 (by omega)
  have n6 : ((k : Int) + 2).toNat = k + 2 := by omega
  have n7 : (0 : Int) ≤ (k : Int) + 2 := by omega
  have n8 : (k : Int) + 2 < (m : Int) := by omega
  have n9 : (k : Int) < (m : Int) := by omega
  have HKe := Lib.hid hKe
  have HB := Lib.hid hB
  clear hr hs hg hm hK hKe hKl hcnt hB
  generalize frm wr (nth l (k + 2) - nth l k) = G at *
  generalize nth l k = A0 at *
  generalize nth l (k + 2) = A2 at *
  generalize tryC wr l (k + 1) = K at *
  have hBb : 2 ≤ B ∧ B ≤ 1002 := by have := HB.out; omega
  refine lay_start ?_
  go_enter Tryz.func86, Tryz.ntmps86
  go_wp2_with fail
  go_loopw [11, 12] (fun v11 v12 wr' => ∃ (j : Nat) (dd : Ext), j ≤ cnt ∧ v12 = .int .i64 (-B + (j : Int)) ∧ wr' = lay w [.inr dd] ∧ Ow (lay w [.inr dd]) (lay w []).heap.size v11 (tryL K (-B) j)) (fun _ v12 _ => (B + 1 - intOf v12).toNat)
  case atStart => exact ⟨0, noExt _, Nat.zero_le _, by simp, (bw_noExt _).symm, Ow.nil _ _⟩
  case round =>
    obtain ⟨j, dd, hj, rfl, rfl, hO⟩ := hrel
    by_cases hlt : j < cnt
    · have hst : tryL K (-B) (j + 1) = tryL K (-B) j ++ K (-B + j) := rfl
      have hll := HTL.out j
      obtain ⟨q, hq⟩ : ∃ q, -B + (j : Int) = q := ⟨_, rfl⟩
      rw [hq] at hst ⊢
      rw [HKe.out] at hst
      have x1 : q ≤ B := by omega
      have hb1 := half_any (x := G - q) ⟨by omega, by omega⟩
      have hb2 := half_any (x := G + 216000 - q) ⟨by omega, by omega⟩
      have w1 : IntKind.i64.wrap (G - q) = G - q := IntWalk.i64_in _ (by omega)
      have w2 : IntKind.i64.wrap (G + 216000) = G + 216000 := IntWalk.i64_in _ (by omega)
      have w3 : IntKind.i64.wrap (q + 1) = q + 1 := IntWalk.i64_in _ (by omega)
      have w4 : IntKind.i64.wrap (G + 216000 - q) = G + 216000 - q := IntWalk.i64_in _ (by omega)
      have w5 : IntKind.i64.wrap ((G - q).tdiv 2) = (G - q).tdiv 2 := IntWalk.i64_in _ (by omega)
      have w6 : IntKind.i64.wrap ((G + 216000 - q).tdiv 2) = (G + 216000 - q).tdiv 2 := IntWalk.i64_in _ (by omega)
      have w7 : IntKind.i64.wrap (A0 + (G - q).tdiv 2) = A0 + (G - q).tdiv 2 := IntWalk.i64_in _ (by omega)
      have w8 : IntKind.i64.wrap (A0 + (G + 216000 - q).tdiv 2) = A0 + (G + 216000 - q).tdiv 2 := IntWalk.i64_in _ (by omega)
      have hwf1 : (Lit.int .i64 (A0 + (G - q).tdiv 2)).wf = true := lit_bd (by omega)
      have hwf2 : (Lit.int .i64 (A0 + (G + 216000 - q).tdiv 2)).wf = true := lit_bd (by omega)
      have hlen : (tryL K (-B) j).length ≤ 1000000000 := by omega
      have hlen2 : (tryL K (-B) j ++ [A0 + (G - q).tdiv 2]).length ≤ 1000000000 := by rw [List.length_append, List.length_singleton]; omega
      have HO := Lib.hid hO
      clear hO
      generalize tryL K (-B) j = R at *
      by_cases e1 : (G - q).tmod 2 = 0
      · have t1 : ((G - q).tmod 2 == 0) = true := beq_iff_eq.2 e1
        rw [if_pos e1] at hst
        cases wr
        · have HST : Hid (tryL K (-B) (j + 1) = R ++ [A0 + (G - q).tdiv 2]) := Lib.hid (by rw [hst]; simp)
          clear hst e1
          go_wp2_with fail
          refine region_bw (by kernel_rfl) (by kernel_rfl) ?_
          repeat (go_big_quiet_step ((first | (go_at_call 100; exact bqs (H1.out _) ⟨_, rfl⟩))))
          refine wpQuiet_nil ?_
          rintro w' ⟨d, rfl⟩
          rw [lay_bw]
          go_wp2_with (at_builtin; refine push_int rfl _ _ rfl (lay w []) _ (A0 + (G - q).tdiv 2) 3 _ _ _ ?_ (ow_on (A := [_, _]) (B := [.inr dd]) HO.out) ?_ rfl rfl hlen hwf1 ?_; exact lay_below (A := [_, _, _]); exact lay_get w _ 0 _ rfl; intro v1 d1 hv1; replace hv1 := Lib.hid hv1)
          go_roundw
          case rel => exact ⟨j + 1, d1, hlt, congrArg (Value.int .i64) (by omega), rfl, by rw [HST.out]; exact hv1.out⟩
          case measure => simp [intOf]; omega
        · by_cases e2 : (G + 216000 - q).tmod 2 = 0
          · have t2 : ((G + 216000 - q).tmod 2 == 0) = true := beq_iff_eq.2 e2
            have HST : Hid (tryL K (-B) (j + 1) = R ++ ([A0 + (G - q).tdiv 2] ++ [A0 + (G + 216000 - q).tdiv 2])) := Lib.hid (by rw [hst, if_pos ⟨rfl, e2⟩])
            clear hst e1 e2
            go_wp2_with fail
            refine region_bw (by kernel_rfl) (by kernel_rfl) ?_
            repeat (go_big_quiet_step ((first | (go_at_call 100; exact bqs (H1.out _) ⟨_, rfl⟩))))
            refine wpQuiet_nil ?_
            rintro w' ⟨d, rfl⟩
            rw [lay_bw]
            go_wp2_with (first | (at_builtin; refine push_int rfl _ _ rfl (lay w []) _ (A0 + (G - q).tdiv 2) 3 _ _ _ ?_ (ow_on (A := [_, _]) (B := [.inr dd]) HO.out) ?_ rfl rfl hlen hwf1 ?_; exact lay_below (A := [_, _, _]); exact lay_get w _ 0 _ rfl; intro v1 d1 hv1; replace hv1 := Lib.hid hv1) | (at_builtin; refine push_int rfl _ _ rfl (lay w []) _ (A0 + (G + 216000 - q).tdiv 2) 3 _ _ _ ?_ (ow_on (A := [_]) (B := [.inr d1]) hv1.out) ?_ rfl rfl hlen2 hwf2 ?_; exact lay_below (A := [_, _]); exact lay_get w _ 0 _ rfl; intro v2 d2 hv2; replace hv2 := Lib.hid hv2))
            go_roundw
            case rel => exact ⟨j + 1, d2, hlt, congrArg (Value.int .i64) (by omega), rfl, by rw [HST.out, ← List.append_assoc]; exact hv2.out⟩
            case measure => simp [intOf]; omega
          · have t2 : ((G + 216000 - q).tmod 2 == 0) = false := beq_eq_false_iff_ne.2 e2
            have HST : Hid (tryL K (-B) (j + 1) = R ++ [A0 + (G - q).tdiv 2]) := Lib.hid (by rw [hst, if_neg (fun h => e2 h.2), List.append_nil])
            clear hst e1 e2
            go_wp2_with fail
            refine region_bw (by kernel_rfl) (by kernel_rfl) ?_
            repeat (go_big_quiet_step ((first | (go_at_call 100; exact bqs (H1.out _) ⟨_, rfl⟩))))
            refine wpQuiet_nil ?_
            rintro w' ⟨d, rfl⟩
            rw [lay_bw]
            go_wp2_with (at_builtin; refine push_int rfl _ _ rfl (lay w []) _ (A0 + (G - q).tdiv 2) 3 _ _ _ ?_ (ow_on (A := [_, _]) (B := [.inr dd]) HO.out) ?_ rfl rfl hlen hwf1 ?_; exact lay_below (A := [_, _, _]); exact lay_get w _ 0 _ rfl; intro v1 d1 hv1; replace hv1 := Lib.hid hv1)
            go_roundw
            case rel => exact ⟨j + 1, d1, hlt, congrArg (Value.int .i64) (by omega), rfl, by rw [HST.out]; exact hv1.out⟩
            case measure => simp [intOf]; omega
      · have t1 : ((G - q).tmod 2 == 0) = false := beq_eq_false_iff_ne.2 e1
        rw [if_neg e1] at hst
        cases wr
        · have HST : Hid (tryL K (-B) (j + 1) = R) := Lib.hid (by rw [hst]; simp)
          clear hst e1
          go_wp2_with fail
          refine region_bw (by kernel_rfl) (by kernel_rfl) ?_
          repeat (go_big_quiet_step ((first | (go_at_call 100; exact bqs (H1.out _) ⟨_, rfl⟩))))
          refine wpQuiet_nil ?_
          rintro w' ⟨d, rfl⟩
          rw [lay_bw]
          go_wp2_with fail
          go_roundw
          case rel => exact ⟨j + 1, _, hlt, congrArg (Value.int .i64) (by omega), Classical.choose_spec (lay_fold w [_, _] []), by rw [← Classical.choose_spec (lay_fold w [_, _] []), HST.out]; exact ow_on (A := [_]) (B := [.inr dd]) HO.out⟩
          case measure => simp [intOf]; omega
        · by_cases e2 : (G + 216000 - q).tmod 2 = 0
          · have t2 : ((G + 216000 - q).tmod 2 == 0) = true := beq_iff_eq.2 e2
            have HST : Hid (tryL K (-B) (j + 1) = R ++ [A0 + (G + 216000 - q).tdiv 2]) := Lib.hid (by rw [hst, if_pos ⟨rfl, e2⟩, List.nil_append])
            clear hst e1 e2
            go_wp2_with fail
            refine region_bw (by kernel_rfl) (by kernel_rfl) ?_
            repeat (go_big_quiet_step ((first | (go_at_call 100; exact bqs (H1.out _) ⟨_, rfl⟩))))
            refine wpQuiet_nil ?_
            rintro w' ⟨d, rfl⟩
            rw [lay_bw]
            go_wp2_with (at_builtin; refine push_int rfl _ _ rfl (lay w []) _ (A0 + (G + 216000 - q).tdiv 2) 3 _ _ _ ?_ (ow_on (A := [_, _]) (B := [.inr dd]) HO.out) ?_ rfl rfl hlen hwf2 ?_; exact lay_below (A := [_, _, _]); exact lay_get w _ 0 _ rfl; intro v1 d1 hv1; replace hv1 := Lib.hid hv1)
            go_roundw
            case rel => exact ⟨j + 1, d1, hlt, congrArg (Value.int .i64) (by omega), rfl, by rw [HST.out]; exact hv1.out⟩
            case measure => simp [intOf]; omega
          · have t2 : ((G + 216000 - q).tmod 2 == 0) = false := beq_eq_false_iff_ne.2 e2
            have HST : Hid (tryL K (-B) (j + 1) = R) := Lib.hid (by rw [hst, if_neg (fun h => e2 h.2), List.append_nil, List.append_nil])
            clear hst e1 e2
            go_wp2_with fail
            refine region_bw (by kernel_rfl) (by kernel_rfl) ?_
            repeat (go_big_quiet_step ((first | (go_at_call 100; exact bqs (H1.out _) ⟨_, rfl⟩))))
            refine wpQuiet_nil ?_
            rintro w' ⟨d, rfl⟩
            rw [lay_bw]
            go_wp2_with fail
            go_roundw
            case rel => exact ⟨j + 1, _, hlt, congrArg (Value.int .i64) (by omega), Classical.choose_spec (lay_fold w [_, _] []), by rw [← Classical.choose_spec (lay_fold w [_, _] []), HST.out]; exact ow_on (A := [_]) (B := [.inr dd]) HO.out⟩
            case measure => simp [intOf]; omega
    · obtain rfl : j = cnt := by omega
      have x1 : B < -B + (j : Int) := by omega
      have HO := Lib.hid hO
      clear hO
      go_wp2
      go_ret
      obtain ⟨z, hz⟩ := lay_ex w [.inr dd]
      exact ⟨_, z, rfl, hz, by rw [← hz]; exact HO.out⟩
theorem re_tries (v : Value) (l : List Int) (wr : Bool) (bend : Int) (at_ : Nat) (w : World) (hs : Sl w v l) (hg : Giv wr l) (b0 : 0 ≤ bend) (b1 : bend ≤ 1000) (ha : at_ < l.length) :
    Calls Tryz.prog 86 #[v, .int .i64 bend, .int .i64 (at_ : Int), .bool wr] w (Rw w (triesL wr l bend at_)) := by
  have hn3 := hg.n3
  cases at_ with
  | zero => exact re_triesA v l wr bend w hs hg b0 b1
  | succ k =>
    by_cases h : k + 2 = l.length
    · obtain ⟨n, rfl⟩ : ∃ n, k = n + 1 := ⟨k - 1, by omega⟩
      rw [show ((n + 1 + 1 : Nat) : Int) = (n : Int) + 2 by omega]
      exact re_triesB v l wr bend w hs hg b0 b1 n (by omega)
    · rw [show ((k + 1 : Nat) : Int) = (k : Int) + 1 by omega]
      exact re_triesC v l wr bend k w hs hg b0 b1 (by omega)
end Go.Proofs.YtmmfkleplbofgaaGreatDoor
