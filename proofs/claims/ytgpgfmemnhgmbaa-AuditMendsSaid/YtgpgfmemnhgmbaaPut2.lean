/- The reference's put. -/
import Derived.Test.YtgpgfmemnhgmbaaProg
import Derived.Test.YtgpgfmemnhgmbaaLay
import Derived.Test.YtgpgfmemnhgmbaaRegion
import Derived.Test.YtgpgfmemnhgmbaaMix
import Derived.WalkKit
import Derived.WalkSpells
import Derived.WalkLawsBesides
import Derived.Lib.Hide
import Derived.BigQuiet
import Derived.Test.YtgpgfmemnhgmbaaPlain
import Derived.Test.YtgpgfmemnhgmbaaAngle
import Derived.Test.YtgpgfmemnhgmbaaPut
namespace Go.Proofs.Ytgpgfmemnhgmbaa
open Go.RowKit

/-- The call returns a slice that reads as this list. -/
def SlR (w : World) (l : List Int) (e : Ending) (w' : World) : Prop := ∃ v d, e = .returned v ∧ w' = bw w d ∧ Sl (bw w d) v l
theorem putI_at {x : Int} : ∀ {l : List Int} {k : Nat}, k ≤ l.length → (∀ i, i < k → nth l i < x) → (k < l.length → ¬ nth l k < x) →
    putI x l = if k < l.length ∧ nth l k = x then l else l.take k ++ [x] ++ l.drop k
  | [], k, hk, _, _ => by
    obtain rfl : k = 0 := by simpa using hk
    simp [putI]
  | y :: l, 0, _, _, h => by
    have h0 : nth (y :: l) 0 = y := rfl
    have h1 := h (by simp)
    rw [h0] at h1 ⊢
    unfold putI
    rw [if_neg h1]
    by_cases e : y = x
    · rw [if_pos e, if_pos ⟨by simp, e⟩]
    · rw [if_neg e, if_neg (fun h => e h.2)]; rfl
  | y :: l, k + 1, hk, h1, h2 => by
    have h0 : y < x := h1 0 (by omega)
    have hs : ∀ i, nth (y :: l) (i + 1) = nth l i := fun i => rfl
    have ih := putI_at (x := x) (l := l) (k := k) (by simpa using hk) (fun i hi => by rw [← hs]; exact h1 (i + 1) (by omega)) (fun h => by rw [← hs]; exact h2 (by simp; omega))
    unfold putI
    rw [if_pos h0, ih, hs]
    by_cases e : k < l.length ∧ nth l k = x
    · rw [if_pos e, if_pos ⟨by simp; omega, e.2⟩]
    · rw [if_neg e, if_neg (fun h => e ⟨by have := h.1; simp at this; omega, h.2⟩)]; rfl
set_option maxHeartbeats 1000000 in
set_option maxRecDepth 100000 in
theorem re_put_nil (x : Int) (w : World) (hx : (Lit.int .i64 x).wf = true) :
    Calls Try.prog 50 #[.slice none 0 0, .int .i64 x] w (SlR w [x]) := by
  have HN := Lib.hid (fun W => Sl.nil W)
  refine lay_start ?_
  go_enter Try.func50, Try.ntmps50
  go_wp2_with fail
  refine wp_loop_rounds 1 ?_
  rw [rounds_succ]
  go_wp2_with (first | (at_builtin; refine push_sl rfl _ _ rfl (lay w []) _ _ _ _ _ _ [] ?_ (ow_empty (L := [])) (HN.out _) (fun _ => rfl) rfl rfl (by simp) ?_; exact lay_below (A := [_]); intro v1 d1 hv1; replace hv1 := Lib.hid hv1) | (at_builtin; refine push_int rfl _ _ rfl (lay w []) _ x 3 _ _ _ ?_ (ow_on (A := [_]) (B := [.inr d1]) hv1.out) ?_ rfl rfl (by simp) hx ?_; exact lay_below (A := [_, _]); exact lay_get w _ 0 _ rfl; intro v2 d2 hv2; replace hv2 := Lib.hid hv2) | (at_builtin; refine push_sl rfl _ _ rfl (lay w []) _ _ _ _ _ _ [] ?_ (show Ow (lay w [.inr d2]) _ _ _ from hv2.out) (HN.out _) (fun _ => rfl) rfl rfl (by simp) ?_; exact lay_below (A := [_]); intro v3 d3 hv3; replace hv3 := Lib.hid hv3))
  go_ret
  exact ⟨_, d3, rfl, rfl, hv3.out.sl⟩
theorem take_wf {l : List Int} (h : ∀ i, i < l.length → (Lit.int .i64 (nth l i)).wf = true) (k : Nat) : ∀ i, i < (l.take k).length → (Lit.int .i64 (nth (l.take k) i)).wf = true :=
  wf_of_mem h fun _ hx => List.mem_of_mem_take hx
set_option maxHeartbeats 1000000 in
set_option maxRecDepth 100000 in
theorem re_put (v : Value) (l : List Int) (x : Int) (w : World) (hs : Sl w v l) (hl : 0 < l.length) (hn : l.length ≤ 100000000) (hx : (Lit.int .i64 x).wf = true) :
    Calls Try.prog 50 #[v, .int .i64 x] w (SlR w (putI x l)) := by
  have HS := Lib.hid hs
  obtain ⟨b, o, cap, rfl, hc, hwf, hb, hr⟩ := hs.open hl
  obtain ⟨m, hm⟩ : ∃ m, l.length = m := ⟨_, rfl⟩
  have HP := Lib.hid (fun k => @putI_at x l k)
  have hl1 : ∀ k, ([] : List Int).length + ((l.drop 0).take k).length ≤ 1000000000 := fun k => by rw [List.length_take]; simp only [List.length_nil, List.drop_zero]; omega
  have HL1 := Lib.hid hl1
  rw [hm] at HP HS hr hc hl hn ⊢
  have HR := Lib.hid hr
  have HM := Lib.hid hm
  clear hs hr hm hwf hl1
  refine lay_start ?_
  go_enter Try.func50, Try.ntmps50
  go_wp2_with fail
  go_loop [5] (fun v5 => ∃ k : Nat, k ≤ m ∧ v5 = .int .i64 (k : Int) ∧ ∀ i, i < k → nth l i < x) (fun v5 => m - (intOf v5).toNat)
  case atStart => exact ⟨0, Nat.zero_le _, rfl, fun i hi => absurd hi (Nat.not_lt_zero i)⟩
  case round =>
    obtain ⟨k, hk, rfl, hlt⟩ := hrel
    have HLt := Lib.hid hlt
    clear hlt
    have x0 : (0 : Int) ≤ (k : Int) := by omega
    by_cases hkm : k < m
    · have k0 := HR.out k hkm
      have x1 : (k : Int) < (m : Int) := by omega
      by_cases h1 : nth l k < x
      · have t1 : decide (nth l k < x) = true := decide_eq_true h1
        have HN2 : Hid (∀ i, i < k + 1 → nth l i < x) := Lib.hid (fun i hi => by
          by_cases e : i = k
          · subst e; exact h1
          · exact HLt.out i (by omega))
        generalize nth l k = y at *
        go_wp2_with fail
        go_round
        case rel => exact ⟨k + 1, hkm, by go_num, HN2.out⟩
        case measure => simp [intOf]; omega
      · have t1 : decide (nth l k < x) = false := decide_eq_false h1
        have hP := HP.out k (by omega) HLt.out (fun _ => by omega)
        by_cases h2 : nth l k = x
        · have t2 : (nth l k == x) = true := beq_iff_eq.2 h2
          rw [if_pos ⟨hkm, h2⟩] at hP
          have HPu := Lib.hid hP
          clear hP h2
          generalize nth l k = y at *
          go_wp2_with fail
          go_ret
          exact ⟨_, noExt w, rfl, (bw_noExt w).symm, by rw [bw_noExt, HPu.out]; exact HS.out⟩
        · have t2 : (nth l k == x) = false := beq_eq_false_iff_ne.2 h2
          rw [if_neg (fun h => h2 h.2)] at hP
          have HC1 : Hid (Sl w (.slice (some ⟨b, o, none⟩) k cap) ((l.drop 0).take k)) := Lib.hid (by
            have := sl_cut (f := 0) (k := k) (c := cap) HS.out (by rw [HM.out]; omega) (by omega)
            rw [Nat.add_zero] at this; exact this)
          have HC2 : Hid (Sl w (.slice (some ⟨b, o + k, none⟩) (m - k) (cap - k)) ((l.drop k).take (m - k))) := Lib.hid (sl_cut (f := k) (k := m - k) (c := cap - k) HS.out (by rw [HM.out]; omega) (by omega))
          have hE : ([] ++ (l.drop 0).take k) ++ [x] ++ (l.drop k).take (m - k) = putI x l := by
            rw [hP, List.drop_zero, List.nil_append, List.take_of_length_le (l := l.drop k) (by rw [List.length_drop, HM.out]; exact Nat.le_refl _)]
          have HL2 : Hid (([] ++ (l.drop 0).take k : List Int).length ≤ 1000000000) := Lib.hid (by rw [List.nil_append, List.length_take]; omega)
          have HL3 : Hid (([] ++ (l.drop 0).take k ++ [x] : List Int).length + ((l.drop k).take (m - k)).length ≤ 1000000000) := Lib.hid (by
            rw [List.nil_append, List.length_append, List.length_take, List.length_take]; simp only [List.length_singleton]; omega)
          have HE := Lib.hid hE
          have x2 : (k : Int) ≤ (cap : Int) := by omega
          have x3 : (k : Int) ≤ (m : Int) := by omega
          have x4 : (m : Int) ≤ (cap : Int) := by omega
          have x5 : k < cap := by omega
          clear hP hE h2
          generalize nth l k = y at *
          go_wp2_with (first | (at_builtin; refine push_sl rfl _ _ rfl (lay w []) _ _ _ _ _ _ ((l.drop 0).take k) ?_ (ow_empty (L := [])) (HC1.out.lay _) (fun h => by cases h) rfl rfl (HL1.out k) ?_; exact lay_below (A := [_]); intro v1 d1 hv1; replace hv1 := Lib.hid hv1) | (at_builtin; refine push_int rfl _ _ rfl (lay w []) _ x 3 _ _ _ ?_ (ow_on (A := [_]) (B := [.inr d1]) hv1.out) ?_ rfl rfl HL2.out hx ?_; exact lay_below (A := [_, _]); exact lay_get w _ 0 _ rfl; intro v2 d2 hv2; replace hv2 := Lib.hid hv2) | (at_builtin; refine push_sl rfl _ _ rfl (lay w []) _ _ _ _ _ _ ((l.drop k).take (m - k)) ?_ (show Ow (lay w [.inr d2]) _ _ _ from hv2.out) (HC2.out.lay _) (fun h => by cases h) rfl rfl HL3.out ?_; exact lay_below (A := [_]); intro v3 d3 hv3; replace hv3 := Lib.hid hv3))
          go_ret
          exact ⟨_, d3, rfl, rfl, by have := hv3.out.sl; rw [HE.out] at this; exact this⟩
    · obtain rfl : k = m := by omega
      have hP := HP.out k (by omega) HLt.out (fun h => absurd h (Nat.lt_irrefl _))
      rw [if_neg (fun h => absurd h.1 (Nat.lt_irrefl _))] at hP
      have HC1 : Hid (Sl w (.slice (some ⟨b, o, none⟩) k cap) ((l.drop 0).take k)) := Lib.hid (by
        have := sl_cut (f := 0) (k := k) (c := cap) HS.out (by rw [HM.out]; omega) (by omega)
        rw [Nat.add_zero] at this; exact this)
      have HL2 : Hid (([] ++ (l.drop 0).take k : List Int).length ≤ 1000000000) := Lib.hid (by rw [List.nil_append, List.length_take]; omega)
      have HL3 : Hid (([] ++ (l.drop 0).take k ++ [x] : List Int).length + ([] : List Int).length ≤ 1000000000) := Lib.hid (by
        rw [List.nil_append, List.length_append, List.length_take]; simp only [List.length_singleton, List.length_nil]; omega)
      have hE : ([] ++ (l.drop 0).take k) ++ [x] ++ ([] : List Int) = putI x l := by
        rw [hP, List.drop_zero, List.nil_append, List.drop_of_length_le (by rw [HM.out]; exact Nat.le_refl _)]
      have HE := Lib.hid hE
      have x2 : (k : Int) ≤ (cap : Int) := by omega
      have HC3 := Lib.hid (fun W a (c : Nat) (hc : c ≤ cap) => sl_none (w := W) (a := a) (c := c) (by omega))
      clear hP hE
      by_cases hcap : cap = k
      · subst hcap
        go_wp2_with (first | (at_builtin; refine push_sl rfl _ _ rfl (lay w []) _ _ _ _ _ _ ((l.drop 0).take cap) ?_ (ow_empty (L := [])) (HC1.out.lay _) (fun h => by cases h) rfl rfl (HL1.out cap) ?_; exact lay_below (A := [_]); intro v1 d1 hv1; replace hv1 := Lib.hid hv1) | (at_builtin; refine push_int rfl _ _ rfl (lay w []) _ x 3 _ _ _ ?_ (ow_on (A := [_]) (B := [.inr d1]) hv1.out) ?_ rfl rfl HL2.out hx ?_; exact lay_below (A := [_, _]); exact lay_get w _ 0 _ rfl; intro v2 d2 hv2; replace hv2 := Lib.hid hv2) | (at_builtin; refine push_sl rfl _ _ rfl (lay w []) _ _ _ _ _ _ ([]) ?_ (show Ow (lay w [.inr d2]) _ _ _ from hv2.out) (HC3.out _ _ _ (by omega)) (fun h => by cases h) rfl rfl HL3.out ?_; exact lay_below (A := [_]); intro v3 d3 hv3; replace hv3 := Lib.hid hv3))
        go_ret
        exact ⟨_, d3, rfl, rfl, by have := hv3.out.sl; rw [HE.out] at this; exact this⟩
      · have x5 : k < cap := by omega
        go_wp2_with (first | (at_builtin; refine push_sl rfl _ _ rfl (lay w []) _ _ _ _ _ _ ((l.drop 0).take k) ?_ (ow_empty (L := [])) (HC1.out.lay _) (fun h => by cases h) rfl rfl (HL1.out k) ?_; exact lay_below (A := [_]); intro v1 d1 hv1; replace hv1 := Lib.hid hv1) | (at_builtin; refine push_int rfl _ _ rfl (lay w []) _ x 3 _ _ _ ?_ (ow_on (A := [_]) (B := [.inr d1]) hv1.out) ?_ rfl rfl HL2.out hx ?_; exact lay_below (A := [_, _]); exact lay_get w _ 0 _ rfl; intro v2 d2 hv2; replace hv2 := Lib.hid hv2) | (at_builtin; refine push_sl rfl _ _ rfl (lay w []) _ _ _ _ _ _ ([]) ?_ (show Ow (lay w [.inr d2]) _ _ _ from hv2.out) (HC3.out _ _ _ (by omega)) (fun h => by cases h) rfl rfl HL3.out ?_; exact lay_below (A := [_]); intro v3 d3 hv3; replace hv3 := Lib.hid hv3))
        go_ret
        exact ⟨_, d3, rfl, rfl, by have := hv3.out.sl; rw [HE.out] at this; exact this⟩
end Go.Proofs.Ytgpgfmemnhgmbaa
