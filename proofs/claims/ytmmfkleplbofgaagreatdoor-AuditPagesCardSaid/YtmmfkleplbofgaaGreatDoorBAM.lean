/- Contracts and plain laws, several texts in one: Re4 -/
import Derived.Test.YtmmfkleplbofgaaGreatDoorProg
import Derived.WalkKit
import Derived.WalkSpells
import Derived.WalkLawsBesides
import Derived.Lib.Hide
import Derived.BigQuiet
import Derived.Deep.RegionWith
import Derived.Test.YtmmfkleplbofgaaGreatDoorBAA
import Derived.Test.YtmmfkleplbofgaaGreatDoorBAB
import Derived.Test.YtmmfkleplbofgaaGreatDoorBAL
/- The reference's tries. -/
namespace Go.Proofs.YtmmfkleplbofgaaGreatDoor
open Go.RowKit

def tryL (K : Int → List Int) (from_ : Int) : Nat → List Int
  | 0 => []
  | j + 1 => tryL K from_ j ++ K (from_ + j)
def tryA (wr : Bool) (l : List Int) (d : Int) : List Int := [nth l 1 - (stp wr l 1 - d)]
def tryB (wr : Bool) (l : List Int) (d : Int) : List Int := [nth l (l.length - 2) + (stp wr l (l.length - 3) + d)]
def tryC (wr : Bool) (l : List Int) (at_ : Nat) (d : Int) : List Int :=
  (if (frm wr (nth l (at_ + 1) - nth l (at_ - 1)) - d).tmod 2 = 0 then [nth l (at_ - 1) + (frm wr (nth l (at_ + 1) - nth l (at_ - 1)) - d).tdiv 2] else []) ++
  (if wr = true ∧ (frm wr (nth l (at_ + 1) - nth l (at_ - 1)) + 216000 - d).tmod 2 = 0 then [nth l (at_ - 1) + (frm wr (nth l (at_ + 1) - nth l (at_ - 1)) + 216000 - d).tdiv 2] else [])
def tryK (wr : Bool) (l : List Int) (at_ : Nat) (d : Int) : List Int := if at_ = 0 then tryA wr l d else if at_ + 1 = l.length then tryB wr l d else tryC wr l at_ d
def triesL (wr : Bool) (l : List Int) (bend : Int) (at_ : Nat) : List Int := tryL (tryK wr l at_) (-(bend + 2)) (cntM bend)
theorem tryK_len (wr : Bool) (l : List Int) (at_ : Nat) (d : Int) : (tryK wr l at_ d).length ≤ 2 := by
  unfold tryK
  split
  · simp [tryA]
  · split
    · simp [tryB]
    · unfold tryC
      rw [List.length_append]
      split <;> split <;> simp
theorem tryL_len (K : Int → List Int) (h : ∀ d, (K d).length ≤ 2) (from_ : Int) : ∀ j, (tryL K from_ j).length ≤ 2 * j
  | 0 => by simp [tryL]
  | j + 1 => by have := tryL_len K h from_ j; have := h (from_ + j); simp only [tryL, List.length_append]; omega
theorem mem_tryL {K : Int → List Int} {from_ x : Int} : ∀ {j : Nat}, x ∈ tryL K from_ j ↔ ∃ i : Nat, i < j ∧ x ∈ K (from_ + i)
  | 0 => by simp [tryL]
  | j + 1 => by
    simp only [tryL, List.mem_append, mem_tryL (j := j)]
    constructor
    · rintro (⟨i, h1, h2⟩ | h)
      · exact ⟨i, by omega, h2⟩
      · exact ⟨j, by omega, h⟩
    · rintro ⟨i, h1, h2⟩
      by_cases e : i = j
      · subst e; exact .inr h2
      · exact .inl ⟨i, by omega, h2⟩
set_option maxHeartbeats 1000000 in
set_option maxRecDepth 100000 in
theorem re_triesA (v : Value) (l : List Int) (wr : Bool) (bend : Int) (w : World) (hs : Sl w v l) (hg : Giv wr l) (b0 : 0 ≤ bend) (b1 : bend ≤ 1000) :
    Calls Tryz.prog 86 #[v, .int .i64 bend, .int .i64 0, .bool wr] w (Rw w (triesL wr l bend 0)) := by
  have hn3 := hg.n3
  have hn := hg.n1000
  have p1 := perm_bd (hg.perm 1 (by omega))
  have p2 := perm_bd (hg.perm 2 (by omega))
  have sb := stp_bd hg (i := 1) (by omega)
  have H1 := Lib.hid (fun W => re_step (nth l 1) (nth l 2) wr W (by omega) (by omega))
  have hse : frm wr (nth l 2 - nth l 1) = stp wr l 1 := rfl
  rw [hse] at H1
  have hK : tryK wr l 0 = tryA wr l := by funext d; unfold tryK; rw [if_pos rfl]
  have hKe : ∀ d, tryA wr l d = [nth l 1 - (stp wr l 1 - d)] := fun d => rfl
  unfold triesL
  rw [hK]
  have HTL := Lib.hid (tryL_len (tryA wr l) (fun d => by simp [tryA]) (-(bend + 2)))
  obtain ⟨b, o, cap, rfl, hc, -, hb, hr⟩ := hs.open (by omega)
  have k1 := hr 1 (by omega)
  have k2 := hr 2 (by omega)
  obtain ⟨m, hm⟩ : ∃ m, l.length = m := ⟨_, rfl⟩
  obtain ⟨B, hB⟩ : ∃ B, bend + 2 = B := ⟨_, rfl⟩
  obtain ⟨cnt, hcnt⟩ : ∃ cnt, cntM bend = cnt := ⟨_, rfl⟩
  have hc2 : (cnt : Int) = 2 * B + 1 := by rw [← hcnt]; unfold cntM; omega
  have wB : IntKind.i64.wrap (bend + 2) = B := by rw [IntWalk.i64_in _ (by omega)]; exact hB
  rw [hB, hcnt]
  rw [hB] at HTL
  rw [hm] at hn3 hn hc ⊢
  have wN : IntKind.i64.wrap (-B) = -B := IntWalk.i64_in _ (by omega)
  have y1 : (1 : Int) < (m : Int) := by omega
  have y2 : (2 : Int) < (m : Int) := by omega
  have HKe := Lib.hid hKe
  have HB := Lib.hid hB
  clear hr hs hg hm hK hKe hse hcnt hB
  generalize stp wr l 1 = S at *
  generalize nth l 1 = A1 at *
  generalize nth l 2 = A2 at *
  generalize tryA wr l = K at *
  have hBb : 2 ≤ B ∧ B ≤ 1002 := by have := HB.out; omega
  refine lay_start ?_
  go_enter Tryz.func86, Tryz.ntmps86
  go_wp2_with fail
  go_loopw [11, 12] (fun v11 v12 wr' => ∃ (j : Nat) (dd : Ext), j ≤ cnt ∧ v12 = .int .i64 (-B + (j : Int)) ∧ wr' = lay w [.inr dd] ∧ Ow (lay w [.inr dd]) (lay w []).heap.size v11 (tryL K (-B) j)) (fun _ v12 _ => (B + 1 - intOf v12).toNat)
  case atStart => exact ⟨0, noExt _, Nat.zero_le _, by simp, (bw_noExt _).symm, Ow.nil _ _⟩
  case round =>
    obtain ⟨j, dd, hj, rfl, rfl, hO⟩ := hrel
    by_cases hlt : j < cnt
    · have hst : tryL K (-B) (j + 1) = tryL K (-B) j ++ K (-B + j) := rfl
      have hll := HTL.out j
      obtain ⟨q, hq⟩ : ∃ q, -B + (j : Int) = q := ⟨_, rfl⟩
      rw [hq] at hst ⊢
      rw [HKe.out] at hst
      have x1 : q ≤ B := by omega
      have w1 : IntKind.i64.wrap (S - q) = S - q := IntWalk.i64_in _ (by omega)
      have w2 : IntKind.i64.wrap (A1 - (S - q)) = A1 - (S - q) := IntWalk.i64_in _ (by omega)
      have w3 : IntKind.i64.wrap (q + 1) = q + 1 := IntWalk.i64_in _ (by omega)
      have hwf : (Lit.int .i64 (A1 - (S - q))).wf = true := lit_bd (by omega)
      have hlen : (tryL K (-B) j).length ≤ 1000000000 := by omega
      have HST := Lib.hid hst
      have HO := Lib.hid hO
      clear hst hO
      generalize tryL K (-B) j = R at *
      go_wp2_with fail
      refine region_mixT 16 [0, 0, 0, 0, 0, 0, 0, 0, 0, 0, 0, 0, 0, 0, 0, 1] (by kernel_rfl) (by kernel_rfl) (by kernel_rfl) (by kernel_rfl) (by simp) (by kernel_rfl) ?_
      simp only [List.take_succ_cons, List.take_zero, List.drop_succ_cons, List.drop_zero]
      repeat (first | (refine wpM_quiet (fun K hK => ?_); go_simp; first | (refine hK _ ?_; clear hK K) | (apply Exists.intro; refine ⟨fun _ => ?_, hK _ ?_⟩; (first | (go_at_call 100; exact bqs (H1.out _) ⟨noExt _, (bw_noExt _).symm⟩)); clear hK K)) | (refine wpM_special (fun K hK d => ?_); go_simp; refine hK _ _ (by first | exact lay_in w [_] _ | exact lay_in w [_, _] _ | exact lay_in w [_, _, _] _ | exact lay_in w [_, _, _, _] _ | exact lay_in w [_, _, _, _, _] _ | exact lay_in w [_, _, _, _, _, _] _) ?_; clear hK K))
      refine wpM_nil ?_
      intro d1
      rw [lay_bw]
      refine push_int rfl _ _ rfl (lay w []) _ (A1 - (S - q)) 3 _ _ _ ?_ (ow_on (A := [_, _, _]) (B := [.inr dd]) HO.out) ?_ rfl rfl hlen hwf ?_
      · exact lay_below (A := [_, _, _, _])
      · exact lay_get w _ 1 _ rfl
      intro v' d' hv'
      have HV := Lib.hid hv'
      clear hv'
      go_wp2_with fail
      go_roundw
      case rel => exact ⟨j + 1, d', hlt, congrArg (Value.int .i64) (by omega), rfl, by rw [HST.out]; exact HV.out⟩
      case measure => simp [intOf]; omega
    · obtain rfl : j = cnt := by omega
      have x1 : B < -B + (j : Int) := by omega
      have HO := Lib.hid hO
      clear hO
      go_wp2
      go_ret
      obtain ⟨z, hz⟩ := lay_ex w [.inr dd]
      exact ⟨_, z, rfl, hz, by rw [← hz]; exact HO.out⟩
set_option maxHeartbeats 1000000 in
set_option maxRecDepth 100000 in
theorem re_triesB (v : Value) (l : List Int) (wr : Bool) (bend : Int) (w : World) (hs : Sl w v l) (hg : Giv wr l) (b0 : 0 ≤ bend) (b1 : bend ≤ 1000) (n : Nat) (hn0 : l.length = n + 3) :
    Calls Tryz.prog 86 #[v, .int .i64 bend, .int .i64 ((n : Int) + 2), .bool wr] w (Rw w (triesL wr l bend (n + 2))) := by
  have hn3 := hg.n3
  have hn := hg.n1000
  have p1 := perm_bd (hg.perm (n + 1) (by omega))
  have p2 := perm_bd (hg.perm n (by omega))
  have sb := stp_bd hg (i := n) (by omega)
  have H1 := Lib.hid (fun W => re_step (nth l n) (nth l (n + 1)) wr W (by omega) (by omega))
  have hse : frm wr (nth l (n + 1) - nth l n) = stp wr l n := rfl
  rw [hse] at H1
  have hK : tryK wr l (n + 2) = tryB wr l := by funext d; unfold tryK; rw [if_neg (by omega), if_pos (by omega)]
  have hKe : ∀ d, tryB wr l d = [nth l (n + 1) + (stp wr l n + d)] := fun d => by unfold tryB; rw [hn0, show n + 3 - 2 = n + 1 by omega, show n + 3 - 3 = n by omega]
  unfold triesL
  rw [hK]
  have HTL := Lib.hid (tryL_len (tryB wr l) (fun d => by simp [tryB]) (-(bend + 2)))
  obtain ⟨b, o, cap, rfl, hc, -, hb, hr⟩ := hs.open (by omega)
  have k1 := hr (n + 1) (by omega)
  have k2 := hr n (by omega)
  obtain ⟨B, hB⟩ : ∃ B, bend + 2 = B := ⟨_, rfl⟩
  obtain ⟨cnt, hcnt⟩ : ∃ cnt, cntM bend = cnt := ⟨_, rfl⟩
  have hc2 : (cnt : Int) = 2 * B + 1 := by rw [← hcnt]; unfold cntM; omega
  have wB : IntKind.i64.wrap (bend + 2) = B := by rw [IntWalk.i64_in _ (by omega)]; exact hB
  rw [hB, hcnt]
  rw [hB] at HTL
  rw [hn0] at hn3 hn hc ⊢
  have wN : IntKind.i64.wrap (-B) = -B := IntWalk.i64_in _ (by omega)
  have en : ((n + 3 : Nat) : Int) = (n : Int) + 3 := by omega
  have n1 : IntKind.i64.wrap ((n : Int) + 3 - 1) = (n : Int) + 2 := by rw [IntWalk.i64_in _ (by omega)]; omega
  have n2 : IntKind.i64.wrap ((n : Int) + 3 - 2) = (n : Int) + 1 := by rw [IntWalk.i64_in _ (by omega)]; omega
  have n3 : IntKind.i64.wrap ((n : Int) + 3 - 3) = (n : Int) := by rw [IntWalk.i64_in _ (by omega)]; omega
  have n4 : IntKind.i64.wrap (n : Int) = (n : Int) := IntWalk.i64_in _ (by omega)
  have n5 : ((n : Int) + 2 == 0) = false := beq_eq_false_iff_ne.2 (by omega)
  have n6 : ((n : Int) + 1).toNat = n + 1 := by omega
  have n7 : (0 : Int) ≤ (n : Int) + 1 := by omega
  have n8 : (n : Int) + 1 < (n : Int) + 3 := by omega
  have n9 : (n : Int) < (n : Int) + 3 := by omega
  have HKe := Lib.hid hKe
  have HB := Lib.hid hB
  clear hr hs hg hK hKe hse hcnt hB hn0
  generalize stp wr l n = S at *
  generalize nth l (n + 1) = A1 at *
  generalize nth l n = A2 at *
  generalize tryB wr l = K at *
  have hBb : 2 ≤ B ∧ B ≤ 1002 := by have := HB.out; omega
  refine lay_start ?_
  go_enter Tryz.func86, Tryz.ntmps86
  go_wp2_with fail
  go_loopw [11, 12] (fun v11 v12 wr' => ∃ (j : Nat) (dd : Ext), j ≤ cnt ∧ v12 = .int .i64 (-B + (j : Int)) ∧ wr' = lay w [.inr dd] ∧ Ow (lay w [.inr dd]) (lay w []).heap.size v11 (tryL K (-B) j)) (fun _ v12 _ => (B + 1 - intOf v12).toNat)
  case atStart => exact ⟨0, noExt _, Nat.zero_le _, by simp, (bw_noExt _).symm, Ow.nil _ _⟩
  case round =>
    obtain ⟨j, dd, hj, rfl, rfl, hO⟩ := hrel
    by_cases hlt : j < cnt
    · have hst : tryL K (-B) (j + 1) = tryL K (-B) j ++ K (-B + j) := rfl
      have hll := HTL.out j
      obtain ⟨q, hq⟩ : ∃ q, -B + (j : Int) = q := ⟨_, rfl⟩
      rw [hq] at hst ⊢
      rw [HKe.out] at hst
      have x1 : q ≤ B := by omega
      have w1 : IntKind.i64.wrap (S + q) = S + q := IntWalk.i64_in _ (by omega)
      have w2 : IntKind.i64.wrap (A1 + (S + q)) = A1 + (S + q) := IntWalk.i64_in _ (by omega)
      have w3 : IntKind.i64.wrap (q + 1) = q + 1 := IntWalk.i64_in _ (by omega)
      have hwf : (Lit.int .i64 (A1 + (S + q))).wf = true := lit_bd (by omega)
      have hlen : (tryL K (-B) j).length ≤ 1000000000 := by omega
      have HST := Lib.hid hst
      have HO := Lib.hid hO
      clear hst hO
      generalize tryL K (-B) j = R at *
      go_wp2_with fail
      refine region_mixT 22 [0, 0, 0, 0, 0, 0, 0, 0, 0, 0, 0, 0, 0, 0, 0, 0, 0, 0, 0, 0, 0, 1] (by kernel_rfl) (by kernel_rfl) (by kernel_rfl) (by kernel_rfl) (by simp) (by kernel_rfl) ?_
      simp only [List.take_succ_cons, List.take_zero, List.drop_succ_cons, List.drop_zero]
      repeat (first | (refine wpM_quiet (fun K hK => ?_); go_simp; first | (refine hK _ ?_; clear hK K) | (apply Exists.intro; refine ⟨fun _ => ?_, hK _ ?_⟩; (first | (go_at_call 100; exact bqs (H1.out _) ⟨noExt _, (bw_noExt _).symm⟩)); clear hK K)) | (refine wpM_special (fun K hK d => ?_); go_simp; refine hK _ _ (by first | exact lay_in w [_] _ | exact lay_in w [_, _] _ | exact lay_in w [_, _, _] _ | exact lay_in w [_, _, _, _] _ | exact lay_in w [_, _, _, _, _] _ | exact lay_in w [_, _, _, _, _, _] _) ?_; clear hK K))
      refine wpM_nil ?_
      intro d1
      rw [lay_bw]
      refine push_int rfl _ _ rfl (lay w []) _ (A1 + (S + q)) 3 _ _ _ ?_ (ow_on (A := [_, _, _]) (B := [.inr dd]) HO.out) ?_ rfl rfl hlen hwf ?_
      · exact lay_below (A := [_, _, _, _])
      · exact lay_get w _ 1 _ rfl
      intro v' d' hv'
      have HV := Lib.hid hv'
      clear hv'
      go_wp2_with fail
      go_roundw
      case rel => exact ⟨j + 1, d', hlt, congrArg (Value.int .i64) (by omega), rfl, by rw [HST.out]; exact HV.out⟩
      case measure => simp [intOf]; omega
    · obtain rfl : j = cnt := by omega
      have x1 : B < -B + (j : Int) := by omega
      have HO := Lib.hid hO
      clear hO
      go_wp2
      go_ret
      obtain ⟨z, hz⟩ := lay_ex w [.inr dd]
      exact ⟨_, z, rfl, hz, by rw [← hz]; exact HO.out⟩
end Go.Proofs.YtmmfkleplbofgaaGreatDoor
