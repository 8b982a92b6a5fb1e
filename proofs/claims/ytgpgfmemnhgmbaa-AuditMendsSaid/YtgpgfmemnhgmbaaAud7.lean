/- audit: candidates at the middle one of three; all ways together. -/
import Derived.Test.YtgpgfmemnhgmbaaProg
import Derived.Test.YtgpgfmemnhgmbaaLay
import Derived.Test.YtgpgfmemnhgmbaaRegion
import Derived.Test.YtgpgfmemnhgmbaaMix
import Derived.WalkKit
import Derived.WalkSpells
import Derived.WalkLawsBesides
import Derived.Lib.Hide
import Derived.BigQuiet
import Derived.Test.YtgpgfmemnhgmbaaPlain
import Derived.Test.YtgpgfmemnhgmbaaAngle
import Derived.Test.YtgpgfmemnhgmbaaAud6
namespace Go.Proofs.Ytgpgfmemnhgmbaa
open Go.RowKit

theorem half_bd {s bend : Int} (b0 : 0 ≤ bend) (b1 : bend ≤ 1000) (h : -3000000 ≤ s ∧ s ≤ 3000000) : -2000000 ≤ half1 s bend ∧ half1 s bend ≤ half2 s bend ∧ half2 s bend ≤ 2000000 ∧ half2 s bend - half1 s bend ≤ 2000 := by
  unfold half1 half2
  have e1 := Int.tmod_add_mul_tdiv (s - (bend + 2)) 2
  have t1 := Int.tmod_lt_of_pos (s - (bend + 2)) (show (0 : Int) < 2 by decide)
  have t2 : -2 < (s - (bend + 2)).tmod 2 := Int.lt_tmod_of_pos _ (by decide)
  have e2 := Int.tmod_add_mul_tdiv (s + (bend + 2)) 2
  have t3 := Int.tmod_lt_of_pos (s + (bend + 2)) (show (0 : Int) < 2 by decide)
  have t4 : -2 < (s + (bend + 2)).tmod 2 := Int.lt_tmod_of_pos _ (by decide)
  omega
set_option maxHeartbeats 4000000 in
set_option maxRecDepth 100000 in
theorem aud_candidates3 (v : Value) (l : List Int) (wr : Bool) (bend : Int) (w : World) (hs : Sl w v l) (hg : Giv wr l) (b0 : 0 ≤ bend) (b1 : bend ≤ 1000) (h3 : l.length = 3) :
    Calls Try.prog 46 #[.agg #[v, .bool wr], .int .i64 bend, .int .i64 1] w (Rw w (once (raw3 wr l bend))) := by
  have p0 := perm_bd (hg.perm 0 (by omega))
  have p2 := perm_bd (hg.perm 2 (by omega))
  have fb := frm_bd (hg.perm 2 (by omega)) (hg.perm 0 (by omega))
  obtain ⟨b, o, cap, rfl, hc, -, hb, hr⟩ := hs.open (by omega)
  have hr0 := hr 0 (by omega)
  have hr0' := hr0
  rw [Nat.add_zero] at hr0'
  have hr2 := hr 2 (by omega)
  have HF := Lib.hid (fun W => aud_form (some ⟨b, o, none⟩) 3 cap wr (nth l 2 - nth l 0) W)
  rw [h3] at hc ⊢
  have eI4 : ∀ args w, (callFunc 55 args).run Try.prog w = .ok (.enter 55 args) w := enters_of Try.func55 (by kernel_rfl) rfl
  have eI5 : ∀ args w, (callFunc 56 args).run Try.prog w = .ok (.enter 56 args) w := enters_of Try.func56 (by kernel_rfl) rfl
  have k3 : (lay w [.inl (.cells #[.int .i64 1] 3 (0, 0)), .inl (.cells #[.slice (some ⟨b, o, none⟩) 3 cap, .bool wr] 57 (0, 0))]).cell? ⟨posn w [], 0, none⟩ = some (.slice (some ⟨b, o, none⟩) 3 cap) := by simp [go_sem]
  have k3' : (lay w [.inl (.cells #[.int .i64 1] 3 (0, 0)), .inl (.cells #[.slice (some ⟨b, o, none⟩) 3 cap, .bool wr] 57 (0, 0))]).cell? ⟨posn w [], 1, none⟩ = some (.bool wr) := by simp [go_sem]
  have l3 : posn w [] < (lay w [.inl (.cells #[.int .i64 1] 3 (0, 0)), .inl (.cells #[.slice (some ⟨b, o, none⟩) 3 cap, .bool wr] 57 (0, 0))]).heap.size := by simp only [lay_size, shp, posn, List.sum_cons, List.sum_nil]; omega
  have hp : posn (lay w [.inl (.cells #[.int .i64 1] 3 (0, 0)), .inl (.cells #[.slice (some ⟨b, o, none⟩) 3 cap, .bool wr] 57 (0, 0))]) [] = posn w [1, 1] := by simp only [posn, lay_size, shp, List.sum_cons, List.sum_nil]; omega
  have w6 : IntKind.i64.wrap (nth l 2 - nth l 0) = nth l 2 - nth l 0 := IntWalk.i64_in _ (by omega)
  obtain ⟨S, hS⟩ : ∃ S, frm wr (nth l 2 - nth l 0) = S := ⟨_, rfl⟩
  rw [hS] at fb HF
  have hb1 := half_bd (s := S) b0 b1 ⟨by omega, by omega⟩
  have hb2 := half_bd (s := S + 216000) b0 b1 ⟨by omega, by omega⟩
  have HA := Lib.hid (fun d => aud_add 55 [.pointer (some ⟨posn w [], 0, none⟩)] (fun x => nth l 0 + x) (some ⟨b, o, none⟩) 3 cap (posn w []) wr (half1 S bend) (half2 S bend) (cntH S bend) (.slice none 0 0) []
    (lay w [.inl (.cells #[.int .i64 1] 3 (0, 0)), .inl (.cells #[.slice (some ⟨b, o, none⟩) 3 cap, .bool wr] 57 (0, 0))]) d eI4 l3 k3 k3'
    (fun x x0 x1 L => cand4 b o 3 cap (posn w []) l x _ ((lay_old _ L 0 _ l3).trans k3) (by decide) ((lay_old _ L _ _ (Nat.lt_of_lt_of_le hb (lay_extends w _).size)).trans ((lay_old w _ _ _ hb).trans hr0)) p0 ⟨by omega, by omega⟩)
    (fun x x0 x1 => ⟨by omega, by omega⟩) (by omega) (by omega) (by unfold cntH; omega) (by simp) (Ow.nil _ _))
  have HB := Lib.hid (fun v R d hown (hR : R.length ≤ 100000) => aud_add 56 [.pointer (some ⟨posn w [], 0, none⟩)] (fun x => nth l 0 + x) (some ⟨b, o, none⟩) 3 cap (posn w []) wr (half1 (S + 216000) bend) (half2 (S + 216000) bend) (cntH (S + 216000) bend) v R
    (lay w [.inl (.cells #[.int .i64 1] 3 (0, 0)), .inl (.cells #[.slice (some ⟨b, o, none⟩) 3 cap, .bool wr] 57 (0, 0))]) d eI5 l3 k3 k3'
    (fun x x0 x1 L => cand5 b o 3 cap (posn w []) l x _ ((lay_old _ L 0 _ l3).trans k3) (by decide) ((lay_old _ L _ _ (Nat.lt_of_lt_of_le hb (lay_extends w _).size)).trans ((lay_old w _ _ _ hb).trans hr0)) p0 ⟨by omega, by omega⟩)
    (fun x x0 x1 => ⟨by omega, by omega⟩) (by omega) (by omega) (by unfold cntH; omega) hR hown)
  rw [hp] at HA HB
  have hl1 := addL_len wr (fun x => nth l 0 + x) (half1 S bend) (cntH S bend)
  have hl2 := addL_len wr (fun x => nth l 0 + x) (half1 (S + 216000) bend) (cntH (S + 216000) bend)
  have hraw : raw3 wr l bend = addL wr (fun x => nth l 0 + x) (half1 S bend) (cntH S bend) ++ if wr then addL wr (fun x => nth l 0 + x) (half1 (S + 216000) bend) (cntH (S + 216000) bend) else [] := by unfold raw3; rw [hS]
  rw [hraw]
  rw [List.nil_append] at HA
  have hc1 : cntH S bend ≤ 3000 := by unfold cntH; omega
  have hc2 : cntH (S + 216000) bend ≤ 3000 := by unfold cntH; omega
  generalize addL wr (fun x => nth l 0 + x) (half1 S bend) (cntH S bend) = R1 at *
  generalize addL wr (fun x => nth l 0 + x) (half1 (S + 216000) bend) (cntH (S + 216000) bend) = R2 at *
  have y2 : decide ((3 : Int) < 3) = false := by decide
  have w1 : IntKind.i64.wrap (bend + 2) = bend + 2 := IntWalk.i64_in _ (by omega)
  have w2 : IntKind.i64.wrap (S - (bend + 2)) = S - (bend + 2) := IntWalk.i64_in _ (by omega)
  have w3 : IntKind.i64.wrap (S + (bend + 2)) = S + (bend + 2) := IntWalk.i64_in _ (by omega)
  have w4 : IntKind.i64.wrap (S + 216000) = S + 216000 := IntWalk.i64_in _ (by omega)
  have w5 : IntKind.i64.wrap (S + 216000 - (bend + 2)) = S + 216000 - (bend + 2) := IntWalk.i64_in _ (by omega)
  have w7 : IntKind.i64.wrap (S + 216000 + (bend + 2)) = S + 216000 + (bend + 2) := IntWalk.i64_in _ (by omega)
  have d1 : IntKind.i64.wrap ((S - (bend + 2)).tdiv 2 - 1) = half1 S bend := IntWalk.i64_in _ (show _ ≤ half1 S bend ∧ half1 S bend ≤ _ by omega)
  have d2 : IntKind.i64.wrap ((S + (bend + 2)).tdiv 2 + 1) = half2 S bend := IntWalk.i64_in _ (show _ ≤ half2 S bend ∧ half2 S bend ≤ _ by omega)
  have d3 : IntKind.i64.wrap ((S + 216000 - (bend + 2)).tdiv 2 - 1) = half1 (S + 216000) bend := IntWalk.i64_in _ (show _ ≤ half1 (S + 216000) bend ∧ half1 (S + 216000) bend ≤ _ by omega)
  have d4 : IntKind.i64.wrap ((S + 216000 + (bend + 2)).tdiv 2 + 1) = half2 (S + 216000) bend := IntWalk.i64_in _ (show _ ≤ half2 (S + 216000) bend ∧ half2 (S + 216000) bend ≤ _ by omega)
  have q1 : IntKind.i64.wrap ((S - (bend + 2)).tdiv 2) = (S - (bend + 2)).tdiv 2 := IntWalk.i64_in _ (by unfold half1 half2 at hb1; omega)
  have q2 : IntKind.i64.wrap ((S + (bend + 2)).tdiv 2) = (S + (bend + 2)).tdiv 2 := IntWalk.i64_in _ (by unfold half1 half2 at hb1; omega)
  have q3 : IntKind.i64.wrap ((S + 216000 - (bend + 2)).tdiv 2) = (S + 216000 - (bend + 2)).tdiv 2 := IntWalk.i64_in _ (by unfold half1 half2 at hb2; omega)
  have q4 : IntKind.i64.wrap ((S + 216000 + (bend + 2)).tdiv 2) = (S + 216000 + (bend + 2)).tdiv 2 := IntWalk.i64_in _ (by unfold half1 half2 at hb2; omega)
  have hlay : ∀ x y, lay (lay w [.inl (.cells #[.int .i64 1] 3 (0, 0)), .inl (.cells #[.slice (some ⟨b, o, none⟩) 3 cap, .bool wr] 57 (0, 0))]) [x, y] = lay w [x, y, .inl (.cells #[.int .i64 1] 3 (0, 0)), .inl (.cells #[.slice (some ⟨b, o, none⟩) 3 cap, .bool wr] 57 (0, 0))] := fun x y => (lay_app w [x, y] _).symm
  clear hraw k3 k3' l3 hp eI4 eI5 hs hg hr hS hb1 hb2 hr0
  generalize nth l 0 = A at *
  generalize nth l 2 = B at *
  generalize half1 S bend = h1 at *
  generalize half2 S bend = h2 at *
  generalize half1 (S + 216000) bend = g1 at *
  generalize half2 (S + 216000) bend = g2 at *
  cases wr
  · have hrl : R1.length ≤ 1000000000 := by omega
    rw [show (R1 ++ if false = true then R2 else []) = R1 by simp]
    refine lay_start ?_
    go_enter Try.func46, Try.ntmps46
    go_wp2_with fail
    refine region_bw (by kernel_rfl) (by kernel_rfl) ?_
    repeat (go_big_quiet_step ((first | (go_at_call 41; exact bq (HF.out _) (fun d => lay_join _ _ _ d)))))
    refine wpQuiet_nil ?_
    rintro w' ⟨d, rfl⟩
    rw [lay_bw]
    go_wp2_with fail
    refine (HA.out _).mono ?_
    rintro e w' ⟨v, d2, rfl, rfl, hv⟩
    rw [hlay] at hv ⊢
    replace hv := hv.base ((box_size _ _ v).trans (show _ = (lay w (.inl (.cells #[v] 22 (0, 0)) :: [.inl (.cells #[.int .i64 1] 3 (0, 0)), .inl (.cells #[.slice (some ⟨b, o, none⟩) 3 cap, .bool false] 57 (0, 0))])).heap.size from rfl))
    have HSo := Lib.hid (sl_Sort' (lay w (.inl (.cells #[v] 22 (0, 0)) :: [.inl (.cells #[.int .i64 1] 3 (0, 0)), .inl (.cells #[.slice (some ⟨b, o, none⟩) 3 cap, .bool false] 57 (0, 0))])) v _ d2 hv hrl)
    clear hv
    go_wp2_with fail
    refine HSo.out.mono ?_
    rintro e w' ⟨d3, rfl, rfl, h3⟩
    rw [lay_bw]
    have HCo := Lib.hid (sl_Compact' (lay w (.inl (.cells #[v] 22 (0, 0)) :: [.inl (.cells #[.int .i64 1] 3 (0, 0)), .inl (.cells #[.slice (some ⟨b, o, none⟩) 3 cap, .bool false] 57 (0, 0))])) v _ d3 h3 hrl)
    clear h3
    go_wp2_with fail
    refine HCo.out.mono ?_
    rintro e w' ⟨v2, d4, rfl, rfl, h4⟩
    obtain ⟨va, vn, vc, hve⟩ := h4.form0
    subst hve
    rw [lay_bw]
    have H4 := Lib.hid h4
    clear h4
    go_wp2
    go_ret
    obtain ⟨z, hz, h5⟩ := cand_end H4.out
    exact ⟨_, z, rfl, hz, h5⟩
  · have hrl : (R1 ++ R2).length ≤ 1000000000 := by rw [List.length_append]; omega
    rw [show (R1 ++ if true = true then R2 else []) = R1 ++ R2 by simp]
    refine lay_start ?_
    go_enter Try.func46, Try.ntmps46
    go_wp2_with fail
    refine region_bw (by kernel_rfl) (by kernel_rfl) ?_
    repeat (go_big_quiet_step ((first | (go_at_call 41; exact bq (HF.out _) (fun d => lay_join _ _ _ d)))))
    refine wpQuiet_nil ?_
    rintro w' ⟨d, rfl⟩
    rw [lay_bw]
    go_wp2_with fail
    refine (HA.out _).mono ?_
    rintro e w' ⟨v, d2, rfl, rfl, hv⟩
    have HB' := Lib.hid (HB.out v R1 d2 hv (by omega))
    rw [hlay]
    clear hv
    go_wp2_with fail
    refine HB'.out.mono ?_
    rintro e w' ⟨v, d2, rfl, rfl, hv⟩
    rw [hlay] at hv ⊢
    replace hv := hv.base ((box_size _ _ v).trans (show _ = (lay w (.inl (.cells #[v] 22 (0, 0)) :: [.inl (.cells #[.int .i64 1] 3 (0, 0)), .inl (.cells #[.slice (some ⟨b, o, none⟩) 3 cap, .bool true] 57 (0, 0))])).heap.size from rfl))
    have HSo := Lib.hid (sl_Sort' (lay w (.inl (.cells #[v] 22 (0, 0)) :: [.inl (.cells #[.int .i64 1] 3 (0, 0)), .inl (.cells #[.slice (some ⟨b, o, none⟩) 3 cap, .bool true] 57 (0, 0))])) v _ d2 hv hrl)
    clear hv
    go_wp2_with fail
    refine HSo.out.mono ?_
    rintro e w' ⟨d3, rfl, rfl, h3⟩
    rw [lay_bw]
    have HCo := Lib.hid (sl_Compact' (lay w (.inl (.cells #[v] 22 (0, 0)) :: [.inl (.cells #[.int .i64 1] 3 (0, 0)), .inl (.cells #[.slice (some ⟨b, o, none⟩) 3 cap, .bool true] 57 (0, 0))])) v _ d3 h3 hrl)
    clear h3
    go_wp2_with fail
    refine HCo.out.mono ?_
    rintro e w' ⟨v2, d4, rfl, rfl, h4⟩
    obtain ⟨va, vn, vc, hve⟩ := h4.form0
    subst hve
    rw [lay_bw]
    have H4 := Lib.hid h4
    clear h4
    go_wp2
    go_ret
    obtain ⟨z, hz, h5⟩ := cand_end H4.out
    exact ⟨_, z, rfl, hz, h5⟩
/-- What candidates tries. -/
def rawL (wr : Bool) (l : List Int) (bend : Int) (at_ : Nat) : List Int :=
  if 2 ≤ at_ then raw1 wr l bend (at_ - 2) else if at_ + 2 < l.length then raw2 wr l bend at_ else raw3 wr l bend
theorem aud_candidates (v : Value) (l : List Int) (wr : Bool) (bend : Int) (at_ : Nat) (w : World) (hs : Sl w v l) (hg : Giv wr l) (b0 : 0 ≤ bend) (b1 : bend ≤ 1000) (ha : at_ < l.length) :
    Calls Try.prog 46 #[.agg #[v, .bool wr], .int .i64 bend, .int .i64 (at_ : Int)] w (Rw w (once (rawL wr l bend at_))) := by
  have h3 := hg.n3
  unfold rawL
  by_cases h : 2 ≤ at_
  · rw [if_pos h]
    obtain ⟨k, rfl⟩ : ∃ k, at_ = k + 2 := ⟨at_ - 2, by omega⟩
    rw [show ((k + 2 : Nat) : Int) = (k : Int) + 2 by omega, show k + 2 - 2 = k by omega]
    exact aud_candidates1 v l wr bend k w hs hg b0 b1 ha
  · rw [if_neg h]
    by_cases h2 : at_ + 2 < l.length
    · rw [if_pos h2]
      exact aud_candidates2 v l wr bend at_ w hs hg b0 b1 (by omega) h2
    · rw [if_neg h2]
      obtain rfl : at_ = 1 := by omega
      exact aud_candidates3 v l wr bend w hs hg b0 b1 (by omega)
end Go.Proofs.Ytgpgfmemnhgmbaa
